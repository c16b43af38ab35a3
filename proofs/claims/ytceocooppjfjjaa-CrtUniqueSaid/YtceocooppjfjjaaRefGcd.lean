/- The contract of the reference's Gcd: by halves and differences. -/
import Derived.Test.YtceocooppjfjjaaRef
import Derived.Test.YtceocooppjfjjaaNum2
namespace Go.Proofs.Ytceocooppjfjjaa
open Go.RowKit
set_option linter.unusedVariables false
set_option linter.unusedSimpArgs false
theorem gcd_two_odd {b : Int} (h : b % 2 = 1) : Int.gcd 2 b = 1 := by
  rw [Int.gcd_eq_one_iff]
  intro c hc hc2
  obtain ⟨k, hk⟩ := hc2
  have hc1 : c ∣ 2 * (b / 2) := Int.dvd_trans hc ⟨b / 2, rfl⟩
  have : b - 2 * (b / 2) = 1 := by omega
  rw [← this]; exact Int.dvd_sub ⟨k, hk⟩ hc1
theorem gcd_half_left {a b : Int} (ha : a % 2 = 0) (hb : b % 2 = 1) : Int.gcd (a / 2) b = Int.gcd a b := by
  have e : a = a / 2 * 2 := by omega
  conv => rhs; rw [e]
  rw [Int.gcd_mul_left_left_of_gcd_eq_one (gcd_two_odd hb)]
theorem gcd_half_both {a b : Int} (ha : a % 2 = 0) (hb : b % 2 = 0) : Int.gcd a b = 2 * Int.gcd (a / 2) (b / 2) := by
  have e : a = 2 * (a / 2) := by omega
  have f : b = 2 * (b / 2) := by omega
  conv => lhs; rw [e, f]
  rw [Int.gcd_mul_left]; rfl
/-- between two rounds -/
def GRel (a0 b0 A B T : Int) : Prop := 0 < A ∧ 0 < B ∧ 0 < T ∧ A * T ≤ 2147483648 ∧ B * T ≤ 2147483648 ∧ A ≤ 2147483648 ∧ B ≤ 2147483648 ∧ T ≤ 2147483648 ∧ (Int.gcd A B : Int) * T = Int.gcd a0 b0
theorem GRel.both {a0 b0 A B T : Int} (h : GRel a0 b0 A B T) (ha : A % 2 = 0) (hb : B % 2 = 0) : GRel a0 b0 (A / 2) (B / 2) (T * 2) := by
  obtain ⟨h1, h2, h3, h4, h5, h6, h7, h8, h9⟩ := h
  obtain ⟨u, rfl⟩ : ∃ u, A = 2 * u := ⟨A / 2, by omega⟩
  obtain ⟨v, rfl⟩ : ∃ v, B = 2 * v := ⟨B / 2, by omega⟩
  have eu : 2 * u / 2 = u := by omega
  have ev : 2 * v / 2 = v := by omega
  rw [gcd_half_both ha hb, eu, ev] at h9
  rw [eu, ev]
  have p : 1 * (T * 2) ≤ u * (T * 2) := Int.mul_le_mul_of_nonneg_right (by omega) (by omega)
  have q : u * (T * 2) = 2 * u * T := by grind
  have q2 : v * (T * 2) = 2 * v * T := by grind
  refine ⟨by omega, by omega, by omega, by omega, by omega, by omega, by omega, by omega, ?_⟩
  rw [← h9, Int.natCast_mul]; grind
theorem GRel.left {a0 b0 A B T A' : Int} (h : GRel a0 b0 A B T) (h1 : 0 < A') (h2 : A' ≤ A) (hg : Int.gcd A' B = Int.gcd A B) : GRel a0 b0 A' B T := by
  obtain ⟨_, k2, k3, k4, k5, k6, k7, k8, k9⟩ := h
  have p : A' * T ≤ A * T := Int.mul_le_mul_of_nonneg_right h2 (by omega)
  exact ⟨h1, k2, k3, by omega, k5, by omega, k7, k8, by rw [hg, k9]⟩
theorem GRel.right {a0 b0 A B T B' : Int} (h : GRel a0 b0 A B T) (h1 : 0 < B') (h2 : B' ≤ B) (hg : Int.gcd A B' = Int.gcd A B) : GRel a0 b0 A B' T := by
  obtain ⟨k1, _, k3, k4, k5, k6, k7, k8, k9⟩ := h
  have p : B' * T ≤ B * T := Int.mul_le_mul_of_nonneg_right h2 (by omega)
  exact ⟨k1, h1, k3, k4, by omega, k6, by omega, k8, by rw [hg, k9]⟩
theorem GRel.fin {a0 b0 A T : Int} (h : GRel a0 b0 A A T) : A * T = Int.gcd a0 b0 := by
  obtain ⟨k1, _, k3, k4, k5, k6, k7, k8, k9⟩ := h
  rw [← k9]
  have : (Int.gcd A A : Int) = A := by simp; omega
  rw [this]
set_option maxHeartbeats 1600000 in
theorem ref_Gcd (a0 b0 : Int) (w : World) (h1 : -2147483648 ≤ a0) (h2 : a0 ≤ 2147483648) (h3 : -2147483648 ≤ b0) (h4 : b0 ≤ 2147483648) :
    Calls Try.prog 28 #[.int .i64 a0, .int .i64 b0] w fun e w' => e = .returned (.int .i64 (Int.gcd a0 b0)) ∧ w = w' := by
  have hinit : a0 ≠ 0 → b0 ≠ 0 → GRel a0 b0 a0.natAbs b0.natAbs 1 := fun ha hb => ⟨by omega, by omega, by omega, by omega, by omega, by omega, by omega, by omega, by simp [Int.gcd]⟩
  have hz1 : a0 = 0 → (Int.gcd a0 b0 : Int) = b0.natAbs := fun h => by subst h; simp
  have hz2 : b0 = 0 → (Int.gcd a0 b0 : Int) = a0.natAbs := fun h => by subst h; simp
  obtain ⟨g, hg⟩ : ∃ g, g = (Int.gcd a0 b0 : Int) := ⟨_, rfl⟩
  rw [← hg] at hz1 hz2 ⊢
  have HG := Lib.hid hg
  clear hg
  obtain ⟨a, ha⟩ : ∃ a : Int, a = a0.natAbs := ⟨_, rfl⟩
  obtain ⟨b, hb⟩ : ∃ b : Int, b = b0.natAbs := ⟨_, rfl⟩
  rw [← ha, ← hb] at hinit
  rw [← ha] at hz2
  rw [← hb] at hz1
  have a1 : 0 ≤ a := by omega
  have a2 : a ≤ 2147483648 := by omega
  have b1 : 0 ≤ b := by omega
  have b2 : b ≤ 2147483648 := by omega
  have HA := Lib.hid ha
  have HB := Lib.hid hb
  have hz1' : a = 0 → g = b := fun h => hz1 (by omega)
  have hz2' : b = 0 → g = a := fun h => hz2 (by omega)
  have hi' : a ≠ 0 → b ≠ 0 → GRel a0 b0 a b 1 := fun h h' => hinit (by omega) (by omega)
  clear ha hb hz1 hz2 hinit
  by_cases ha0 : a = 0
  · have HZ := Lib.hid (hz1' ha0)
    have e0 : (a == 0) = true := by simpa using ha0
    clear hz1' hz2' hi' ha0
    go_enter Try.func28, Try.ntmps28
    go_wp2_with fail
    refine (ref_Abs _ _ (by omega) (by omega)).mono ?_
    rintro e w' ⟨rfl, rfl⟩
    rw [← HA.out]
    go_wp2_with fail
    refine (ref_Abs _ _ (by omega) (by omega)).mono ?_
    rintro e w' ⟨rfl, rfl⟩
    rw [← HB.out]
    go_wp2
    go_ret
    exact ⟨ret_int HZ.out.symm, rfl⟩
  · have e0 : (a == 0) = false := by simpa using ha0
    by_cases hb0 : b = 0
    · have HZ := Lib.hid (hz2' hb0)
      have e1 : (b == 0) = true := by simpa using hb0
      clear hz1' hz2' hi' hb0 ha0
      go_enter Try.func28, Try.ntmps28
      go_wp2_with fail
      refine (ref_Abs _ _ (by omega) (by omega)).mono ?_
      rintro e w' ⟨rfl, rfl⟩
      rw [← HA.out]
      go_wp2_with fail
      refine (ref_Abs _ _ (by omega) (by omega)).mono ?_
      rintro e w' ⟨rfl, rfl⟩
      rw [← HB.out]
      go_wp2
      go_ret
      exact ⟨ret_int HZ.out.symm, rfl⟩
    · have e1 : (b == 0) = false := by simpa using hb0
      have hi := hi' ha0 hb0
      clear hz1' hz2' hi' hb0 ha0
      go_enter Try.func28, Try.ntmps28
      go_wp2_with fail
      refine (ref_Abs _ _ (by omega) (by omega)).mono ?_
      rintro e w' ⟨rfl, rfl⟩
      rw [← HA.out]
      go_wp2_with fail
      refine (ref_Abs _ _ (by omega) (by omega)).mono ?_
      rintro e w' ⟨rfl, rfl⟩
      rw [← HB.out]
      go_wp2
      go_loop [0, 1, 5] (fun x y t => ∃ A B T : Int, x = .int .i64 A ∧ y = .int .i64 B ∧ t = .int .i64 T ∧ GRel a0 b0 A B T) (fun x _ _ => (intOf x).toNat)
      case atStart => exact ⟨a, b, 1, rfl, rfl, rfl, hi⟩
      case round =>
        obtain ⟨A, B, T, rfl, rfl, rfl, hr⟩ := hrel
        have ⟨k1, k2, k3, k4, k5, k6, k7, k8, _⟩ := hr
        by_cases hc : A % 2 = 0 ∧ B % 2 = 0
        · have hh := hr.both hc.1 hc.2
          have c1 : (A % 2 == 0) = true := by simpa using hc.1
          have c2 : (B % 2 == 0) = true := by simpa using hc.2
          have ⟨l1, l2, l3, l4, l5, l6, l7, l8, _⟩ := hh
          clear hc
          go_wp2
          go_round
          case rel => exact ⟨_, _, _, rfl, rfl, rfl, hh⟩
          case measure => simp [intOf]; omega
        · have HC := Lib.hid hc
          have hcc : ((A % 2 == 0) = false) ∨ ((A % 2 == 0) = true ∧ (B % 2 == 0) = false) := by
            by_cases e : A % 2 = 0
            · right; exact ⟨by simpa using e, by simpa using fun h => hc ⟨e, h⟩⟩
            · left; simpa using e
          clear hc
          rcases hcc with c1 | ⟨c1, c2⟩
          all_goals
            go_wp2
            go_loop [0, 1] (fun x y => ∃ A' B' : Int, x = .int .i64 A' ∧ y = .int .i64 B' ∧ GRel a0 b0 A' B' T ∧ ¬ (A' % 2 = 0 ∧ B' % 2 = 0)) (fun x y => (intOf x + intOf y).toNat)
            case atStart => exact ⟨A, B, rfl, rfl, hr, HC.out⟩
            case round =>
              clear c1
              try clear c2
              obtain ⟨A', B', rfl, rfl, hr', hnb⟩ := hrel
              have ⟨k1', k2', k3', k4', k5', k6', k7', k8', _⟩ := hr'
              have HN := Lib.hid hnb
              clear hnb k1 k2 k3 k4 k5 k6 k7 k8
              by_cases heq : A' = B'
              · subst heq
                have HF := Lib.hid hr'.fin
                have m0 : 0 ≤ A' * T := Int.mul_nonneg (by omega) (by omega)
                go_wp2
                go_ret
                exact ⟨ret_int (by rw [HF.out, HG.out]), rfl⟩
              · by_cases he : A' % 2 = 0
                · have hbo : B' % 2 = 1 := by have := HN.out; omega
                  have hh := hr'.left (A' := A' / 2) (by omega) (by omega) (gcd_half_left he hbo)
                  have c1 : (A' % 2 == 0) = true := by simpa using he
                  have hn : ¬ (A' / 2 % 2 = 0 ∧ B' % 2 = 0) := by omega
                  have HN2 := Lib.hid hn
                  clear he hbo hn
                  go_wp2
                  go_round
                  case rel => exact ⟨_, _, rfl, rfl, hh, HN2.out⟩
                  case measure => simp [intOf]; omega
                · have c1 : (A' % 2 == 0) = false := by simpa using he
                  by_cases hf : B' % 2 = 0
                  · have hh := hr'.right (B' := B' / 2) (by omega) (by omega) (by rw [Int.gcd_comm, gcd_half_left hf (by omega), Int.gcd_comm])
                    have c2 : (B' % 2 == 0) = true := by simpa using hf
                    have hn : ¬ (A' % 2 = 0 ∧ B' / 2 % 2 = 0) := by omega
                    have HN2 := Lib.hid hn
                    clear he hf hn
                    go_wp2
                    go_round
                    case rel => exact ⟨_, _, rfl, rfl, hh, HN2.out⟩
                    case measure => simp [intOf]; omega
                  · have c2 : (B' % 2 == 0) = false := by simpa using hf
                    by_cases hlt : B' < A'
                    · have hh := hr'.left (A' := A' - B') (by omega) (by omega) (Int.gcd_sub_self_left _ _)
                      have HN2 := Lib.hid (show ¬ ((A' - B') % 2 = 0 ∧ B' % 2 = 0) by omega)
                      clear he hf
                      go_wp2
                      go_round
                      case rel => exact ⟨_, _, rfl, rfl, hh, HN2.out⟩
                      case measure => simp [intOf]; omega
                    · have hh := hr'.right (B' := B' - A') (by omega) (by omega) (Int.gcd_sub_self_right _ _)
                      have HN2 := Lib.hid (show ¬ (A' % 2 = 0 ∧ (B' - A') % 2 = 0) by omega)
                      clear he hf
                      go_wp2
                      go_round
                      case rel => exact ⟨_, _, rfl, rfl, hh, HN2.out⟩
                      case measure => simp [intOf]; omega
end Go.Proofs.Ytceocooppjfjjaa
