/- The walks of the statements PrimesEuclid, PrimesWilson, PrimesBertrand. -/
import Derived.Test.YtlabkedkamdomaaPrC
import Derived.Test.YtlabkedkamdomaaRefIs
import Derived.Test.YtlabkedkamdomaaBert
namespace Go.Proofs.Ytlabkedkamdomaa
open Go.RowKit
set_option linter.unusedVariables false
set_option linter.unusedSimpArgs false
theorem euclid_law {p a b : Int} (hp : prB p = true) (h1 : 1 ≤ p) (h : (a.tmod p * b.tmod p).tmod p = 0) : a.tmod p = 0 ∨ b.tmod p = 0 := by
  have hpr := prB_true hp
  have ta := tmod_bd a p h1
  have tb := tmod_bd b p h1
  have hd : p ∣ a.tmod p * b.tmod p := Int.dvd_of_tmod_eq_zero h
  have hn : p.toNat ∣ (a.tmod p).natAbs * (b.tmod p).natAbs := by
    rw [← Int.natAbs_mul]
    have := Int.natAbs_dvd_natAbs.2 hd
    rwa [show p.natAbs = p.toNat by omega] at this
  rcases hpr.dvd_mul hn with hx | hx
  · left
    have := Nat.eq_zero_of_dvd_of_lt hx (by omega)
    omega
  · right
    have := Nat.eq_zero_of_dvd_of_lt hx (by omega)
    omega
theorem WRel_emod {n P X Y : Int} (h : M.WRel n ((P * X).tmod n) Y) (h0 : 0 ≤ P * X) : M.WRel n (P * X % n) Y := by rwa [Int.tmod_eq_emod_of_nonneg h0] at h
theorem mul_lim1 {a b : Int} (h1 : 0 ≤ a) (h2 : a ≤ 1048576) (h3 : 0 ≤ b) (h4 : b ≤ 1048576) : 0 ≤ a * b ∧ a * b ≤ 1099511627776 :=
  ⟨Int.mul_nonneg h1 h3, Int.mul_le_mul h2 h4 h3 (by omega)⟩
theorem prod_lim {x y p : Int} (h1 : 1 ≤ p) (h2 : p ≤ 1048576) (a : -p < x ∧ x < p) (b : -p < y ∧ y < p) : -1099511627776 ≤ x * y ∧ x * y ≤ 1099511627776 := by
  have h : (x * y).natAbs ≤ 1048576 * 1048576 := by rw [Int.natAbs_mul]; exact Nat.mul_le_mul (by omega) (by omega)
  omega
set_option maxHeartbeats 1600000 in
theorem WPrimesEuclid (a0 : Int) (a1 : Int) (a2 : Int) (w : World) (w0 : (Lit.int .i64 a0).wf = true) (w1 : (Lit.int .i64 a1).wf = true) (w2 : (Lit.int .i64 a2).wf = true) :
    Calls Try.prog 3 #[.int .i64 a0, .int .i64 a1, .int .i64 a2] w fun e w' => e = .returned (.bool true) ∧ Below w.heap.size w w' := by
  have b0 := wf64 w0
  have b1 := wf64 w1
  have b2 := wf64 w2
  clear w0 w1 w2
  by_cases hm : modB a0 = true
  · obtain ⟨m1, m2⟩ := modB_true hm
    by_cases hp : prB a0 = true
    · by_cases ha : farB a1 = true
      · go_enter Try.func3, Try.ntmps3
        go_wp2_with (first | (go_at_call 15; refine (primes_Is_in _ _ m1 m2).mono ?_; rintro e w' ⟨rfl, hb⟩) | (go_at_call 16; refine (keep_modulus _ _).mono ?_; rintro e w' ⟨rfl, rfl⟩) | (go_at_call 18; refine (keep_near _ _).mono ?_; rintro e w' ⟨rfl, rfl⟩) | (go_at_call 17; refine (ref_Is _ _ (by omega)).mono ?_; rintro e w' ⟨rfl, rfl⟩))
        go_ret
        exact ⟨rfl, hb⟩
      · have ha' : farB a1 = false := by simpa using ha
        clear ha
        by_cases hf : farB a2 = true
        · go_enter Try.func3, Try.ntmps3
          go_wp2_with (first | (go_at_call 15; refine (primes_Is_in _ _ m1 m2).mono ?_; rintro e w' ⟨rfl, hb⟩) | (go_at_call 16; refine (keep_modulus _ _).mono ?_; rintro e w' ⟨rfl, rfl⟩) | (go_at_call 18; refine (keep_near _ _).mono ?_; rintro e w' ⟨rfl, rfl⟩) | (go_at_call 17; refine (ref_Is _ _ (by omega)).mono ?_; rintro e w' ⟨rfl, rfl⟩))
          go_ret
          exact ⟨rfl, hb⟩
        · have hf' : farB a2 = false := by simpa using hf
          clear hf
          have tx := tmod_bd a1 a0 m1
          have ty := tmod_bd a2 a0 m1
          have pl := prod_lim m1 m2 tx ty
          have z0 : (a0 == 0) = false := by simp; omega
          have f1 : IntKind.i64.wrap (a1.tmod a0 * a2.tmod a0) = a1.tmod a0 * a2.tmod a0 := IntWalk.i64_in _ (by omega)
          by_cases hz : (a1.tmod a0 * a2.tmod a0).tmod a0 = 0
          · have hq := euclid_law hp m1 hz
            by_cases hx : a1.tmod a0 = 0
            · have HX : (a1.tmod a0 == 0) = true := by simp [hx]
              clear hx hq
              go_enter Try.func3, Try.ntmps3
              go_wp2_with (first | (go_at_call 15; refine (primes_Is_in _ _ m1 m2).mono ?_; rintro e w' ⟨rfl, hb⟩) | (go_at_call 16; refine (keep_modulus _ _).mono ?_; rintro e w' ⟨rfl, rfl⟩) | (go_at_call 18; refine (keep_near _ _).mono ?_; rintro e w' ⟨rfl, rfl⟩) | (go_at_call 17; refine (ref_Is _ _ (by omega)).mono ?_; rintro e w' ⟨rfl, rfl⟩))
              go_quiet (fail)
              go_wp2
              go_ret
              exact ⟨rfl, below_drewN hb _⟩
            · have HY : (a2.tmod a0 == 0) = true := by simp; omega
              have HX : (a1.tmod a0 == 0) = false := by simp [hx]
              clear hq hx
              go_enter Try.func3, Try.ntmps3
              go_wp2_with (first | (go_at_call 15; refine (primes_Is_in _ _ m1 m2).mono ?_; rintro e w' ⟨rfl, hb⟩) | (go_at_call 16; refine (keep_modulus _ _).mono ?_; rintro e w' ⟨rfl, rfl⟩) | (go_at_call 18; refine (keep_near _ _).mono ?_; rintro e w' ⟨rfl, rfl⟩) | (go_at_call 17; refine (ref_Is _ _ (by omega)).mono ?_; rintro e w' ⟨rfl, rfl⟩))
              go_quiet (fail)
              go_wp2
              go_ret
              exact ⟨rfl, below_drewN hb _⟩
          · have HZ : ((a1.tmod a0 * a2.tmod a0).tmod a0 != 0) = true := by simp [hz]
            have HY : decide ((a1.tmod a0 * a2.tmod a0).tmod a0 = 0) = false := by simp [hz]
            have HX : (decide (¬ (a1.tmod a0 * a2.tmod a0).tmod a0 = 0)) = true := by simp [hz]
            go_enter Try.func3, Try.ntmps3
            go_wp2_with (first | (go_at_call 15; refine (primes_Is_in _ _ m1 m2).mono ?_; rintro e w' ⟨rfl, hb⟩) | (go_at_call 16; refine (keep_modulus _ _).mono ?_; rintro e w' ⟨rfl, rfl⟩) | (go_at_call 18; refine (keep_near _ _).mono ?_; rintro e w' ⟨rfl, rfl⟩) | (go_at_call 17; refine (ref_Is _ _ (by omega)).mono ?_; rintro e w' ⟨rfl, rfl⟩))
            go_quiet (fail)
            go_wp2
            go_ret
            exact ⟨rfl, below_drewN hb _⟩
    · have hp' : prB a0 = false := by simpa using hp
      clear hp
      go_enter Try.func3, Try.ntmps3
      go_wp2_with (first | (go_at_call 15; refine (primes_Is_in _ _ m1 m2).mono ?_; rintro e w' ⟨rfl, hb⟩) | (go_at_call 16; refine (keep_modulus _ _).mono ?_; rintro e w' ⟨rfl, rfl⟩) | (go_at_call 18; refine (keep_near _ _).mono ?_; rintro e w' ⟨rfl, rfl⟩) | (go_at_call 17; refine (ref_Is _ _ (by omega)).mono ?_; rintro e w' ⟨rfl, rfl⟩))
      go_ret
      exact ⟨rfl, hb⟩
  · have hm' : modB a0 = false := by simpa using hm
    clear hm
    have H0 := Lib.hid (modB_false hm')
    go_enter Try.func3, Try.ntmps3
    go_wp2_with (first | (go_at_call 15; refine (primes_Is_out _ _ H0.out).mono ?_; rintro e w' ⟨rfl, hb⟩) | (go_at_call 16; refine (keep_modulus _ _).mono ?_; rintro e w' ⟨rfl, rfl⟩) | (go_at_call 18; refine (keep_near _ _).mono ?_; rintro e w' ⟨rfl, rfl⟩) | (go_at_call 17; refine (ref_Is _ _ (by omega)).mono ?_; rintro e w' ⟨rfl, rfl⟩))
    go_ret
    exact ⟨rfl, hb⟩
set_option maxHeartbeats 1600000 in
theorem WPrimesWilson (a0 : Int) (w : World) (w0 : (Lit.int .i64 a0).wf = true) :
    Calls Try.prog 4 #[.int .i64 a0] w fun e w' => e = .returned (.bool true) ∧ Below w.heap.size w w' := by
  have b0 := wf64 w0
  clear w0
  by_cases hm : modB a0 = true
  · obtain ⟨m1, m2⟩ := modB_true hm
    by_cases h2 : a0 < 2
    · go_enter Try.func4, Try.ntmps4
      go_wp2_with fail
      refine (primes_Is_in _ _ m1 m2).mono ?_
      rintro e w' ⟨rfl, hb⟩
      go_wp2_with fail
      go_ret
      exact ⟨rfl, hb⟩
    · by_cases h3 : 4096 < a0
      · go_enter Try.func4, Try.ntmps4
        go_wp2_with fail
        refine (primes_Is_in _ _ m1 m2).mono ?_
        rintro e w' ⟨rfl, hb⟩
        go_wp2_with fail
        go_ret
        exact ⟨rfl, hb⟩
      · go_enter Try.func4, Try.ntmps4
        go_wp2_with fail
        refine (primes_Is_in _ _ m1 m2).mono ?_
        rintro e w' ⟨rfl, hb⟩
        go_wp2_with fail
        go_loop [5, 6] (fun p x => ∃ P X : Int, p = .int .i64 P ∧ x = .int .i64 X ∧ M.WRel a0 P X) (fun _ x => (a0 - intOf x).toNat)
        case atStart => exact ⟨1, 2, rfl, rfl, M.WRel.init (by omega)⟩
        case round =>
          obtain ⟨P, X, rfl, rfl, hr⟩ := hrel
          have r1 := hr.1
          have r2 := hr.2.1
          have r3 := hr.2.2.1
          have r4 := hr.2.2.2.1
          have pl := mul_lim1 r3 (show P ≤ 1048576 by omega) (show 0 ≤ X by omega) (show X ≤ 1048576 by omega)
          by_cases hlt : X < a0
          · have HR := Lib.hid (WRel_emod (hr.step hlt) pl.1)
            clear hr
            have z0 : (a0 == 0) = false := by simp; omega
            go_wp2
            go_round
            case rel => exact ⟨_, X + 1, rfl, by go_num, HR.out⟩
            case measure => simp [intOf]; omega
          · obtain rfl : X = a0 := by omega
            have hf := hr.fin
            by_cases hp : prB X = true
            · have e : (P == X - 1) = true := by simpa using hf.1 (prB_true hp)
              clear hf hr
              go_wp2
              go_ret
              exact ⟨rfl, hb⟩
            · have hp' : prB X = false := by simpa using hp
              have e : (P == X - 1) = false := by simpa using fun h => prB_false hp' (hf.2 h)
              clear hf hr hp
              go_wp2
              go_ret
              exact ⟨rfl, hb⟩
  · have hm' : modB a0 = false := by simpa using hm
    clear hm
    have hmm := modB_false hm'
    have H0 := Lib.hid hmm
    by_cases h2 : a0 < 2
    · go_enter Try.func4, Try.ntmps4
      go_wp2_with fail
      refine (primes_Is_out _ _ H0.out).mono ?_
      rintro e w' ⟨rfl, hb⟩
      go_wp2_with (first | (go_at_call 16; refine (keep_modulus _ _).mono ?_; rintro e w' ⟨rfl, rfl⟩))
      go_ret
      exact ⟨rfl, hb⟩
    · have h3 : 4096 < a0 := by omega
      clear hmm
      go_enter Try.func4, Try.ntmps4
      go_wp2_with fail
      refine (primes_Is_out _ _ H0.out).mono ?_
      rintro e w' ⟨rfl, hb⟩
      go_wp2_with (first | (go_at_call 16; refine (keep_modulus _ _).mono ?_; rintro e w' ⟨rfl, rfl⟩))
      go_ret
      exact ⟨rfl, hb⟩
set_option maxHeartbeats 1600000 in
theorem WPrimesBertrand (a0 : Int) (w : World) (w0 : (Lit.int .i64 a0).wf = true) :
    Calls Try.prog 5 #[.int .i64 a0] w fun e w' => e = .returned (.bool true) ∧ Below w.heap.size w w' := by
  have b0 := wf64 w0
  clear w0
  by_cases hm : 1 ≤ a0 ∧ a0 ≤ 524288
  · obtain ⟨m1, m2⟩ := hm
    obtain ⟨q, hq, q1, q2⟩ := M.bertrand a0.toNat (by omega) (by omega)
    have HQ : Hid (prB (q : Int) = true) := prB_yes (by rw [Int.toNat_natCast]; exact hq)
    clear hq
    go_enter Try.func5, Try.ntmps5
    go_wp2_with fail
    go_loopw [5] (fun p wr => ∃ X : Int, p = .int .i64 X ∧ a0 < X ∧ X ≤ q ∧ Below w.heap.size w wr) (fun p _ => ((q : Int) + 1 - intOf p).toNat)
    case atStart => exact ⟨a0 + 1, by go_num, by omega, by omega, Below.refl _ _⟩
    case round =>
      obtain ⟨X, rfl, x1, x2, hb⟩ := hrel
      by_cases hp : prB X = true
      · go_wp2_with fail
        refine (primes_Is_in _ _ (by omega) (by omega)).mono ?_
        rintro e w' ⟨rfl, hb2⟩
        go_wp2
        go_ret
        exact ⟨rfl, hb.trans (hb2.mono hb.size)⟩
      · have hp' : prB X = false := by simpa using hp
        have hne : X ≠ q := fun e => by rw [e, HQ.out] at hp; exact hp rfl
        clear hp
        go_wp2_with fail
        refine (primes_Is_in _ _ (by omega) (by omega)).mono ?_
        rintro e w' ⟨rfl, hb2⟩
        go_wp2
        go_roundw
        case rel => exact ⟨X + 1, by go_num, by omega, by omega, hb.trans (hb2.mono hb.size)⟩
        case measure => simp [intOf]; omega
  · by_cases hm2 : modB a0 = true
    · obtain ⟨m1, m2⟩ := modB_true hm2
      have h3 : 524288 < a0 := by omega
      clear hm
      go_enter Try.func5, Try.ntmps5
      go_wp2_with (first | (go_at_call 15; refine (primes_Is_in _ _ m1 m2).mono ?_; rintro e w' ⟨rfl, hb⟩) | (go_at_call 16; refine (keep_modulus _ _).mono ?_; rintro e w' ⟨rfl, rfl⟩))
      go_ret
      exact ⟨rfl, hb⟩
    · have hm' : modB a0 = false := by simpa using hm2
      clear hm2
      have H0 := Lib.hid (modB_false hm')
      by_cases h1 : a0 < 1
      all_goals
        have h3 : 524288 < a0 ∨ a0 < 1 := by omega
        go_enter Try.func5, Try.ntmps5
        go_wp2_with (first | (go_at_call 15; refine (primes_Is_out _ _ H0.out).mono ?_; rintro e w' ⟨rfl, hb⟩) | (go_at_call 16; refine (keep_modulus _ _).mono ?_; rintro e w' ⟨rfl, rfl⟩))
        go_ret
        exact ⟨rfl, hb⟩
end Go.Proofs.Ytlabkedkamdomaa
