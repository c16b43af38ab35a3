/- The walk of the statement PowerCarmichael. -/
import Derived.Test.YtceocooppjfjjaaCarM
import Derived.Test.YtceocooppjfjjaaOrd2
import Derived.Test.YtceocooppjfjjaaPrPhi
import Derived.Test.YtceocooppjfjjaaRef
namespace Go.Proofs.Ytceocooppjfjjaa
open Go.RowKit
set_option linter.unusedVariables false
set_option linter.unusedSimpArgs false
theorem power_Lambda_in (N : Nat) (w : World) (h1 : 1 ≤ N) (h2 : N ≤ 1048576) :
    Calls Try.prog 12 #[.int .i64 N] w fun e w' => e = .returned (.tuple #[.int .i64 (M.lam N), .int .i64 0]) ∧ Below w.heap.size w w' := by
  go_enter Try.func12, Try.ntmps12
  go_wp2_with fail
  refine (power_out_in 0 N _ (by omega) (by omega) (by omega) (by omega)).mono ?_
  rintro e w' ⟨rfl, rfl⟩
  go_wp2_with fail
  refine (power_lambda N _ h1 h2).mono ?_
  rintro e w1 ⟨rfl, hb1⟩
  go_wp2
  go_ret2
  exact ⟨rfl, hb1⟩
theorem power_Lambda_out (m : Int) (w : World) (h : m < 1 ∨ 1048576 < m) :
    Calls Try.prog 12 #[.int .i64 m] w fun e w' => e = .returned (.tuple #[.int .i64 0, .int .i64 2]) ∧ w = w' := by
  have H : Hid (farB 0 = true ∨ m < 1 ∨ 1048576 < m) := Lib.hid (.inr h)
  clear h
  go_enter Try.func12, Try.ntmps12
  go_wp2_with fail
  refine (power_out_out 0 m _ H.out).mono ?_
  rintro e w' ⟨rfl, rfl⟩
  go_wp2
  go_ret2
  exact ⟨rfl, rfl⟩
set_option maxRecDepth 100000 in
set_option maxHeartbeats 3200000 in
theorem WPowerCarmichael (a0 : Int) (w : World) (w0 : (Lit.int .i64 a0).wf = true) :
    Calls Try.prog 3 #[.int .i64 a0] w fun e w' => e = .returned (.bool true) ∧ Below w.heap.size w w' := by
  cases hm : modB a0 with
  | false =>
    have HC := Lib.hid (power_Lambda_out a0 w (modB_false hm))
    clear w0
    go_enter Try.func3, Try.ntmps3
    go_wp2_with fail
    refine HC.out.mono ?_
    rintro e w' ⟨rfl, rfl⟩
    go_wp2_with (first | (go_at_call 13; refine (keep_modulus _ _).mono ?_; rintro e w' ⟨rfl, rfl⟩))
    go_ret
    exact ⟨rfl, Below.refl _ _⟩
  | true =>
    obtain ⟨m1, m2⟩ := modB_true hm
    obtain ⟨N, rfl⟩ := Int.eq_ofNat_of_zero_le (show 0 ≤ a0 by omega)
    have n1 : 1 ≤ N := by omega
    obtain ⟨r, r1, r2, r3, r4⟩ := M.lam_elem n1
    have l0 := M.lam_pos n1
    have l1 : M.lam N ≤ N := (M.lam_prefix n1 (List.prefix_refl _)).2
    have HD : Hid ((M.phi N : Int) % (M.lam N : Int) = 0) := Lib.hid (Int.emod_eq_zero_of_dvd (Int.natCast_dvd_natCast.2 (r4.2.2 _ (M.pow_phi_int r3))))
    have HL := Lib.hid (power_Lambda_in N w n1 (by omega))
    have HP := Lib.hid fun w => primes_Phi N w (by omega) (by omega)
    rw [Int.toNat_natCast] at HP
    obtain ⟨L, hL⟩ : ∃ L, M.lam N = L := ⟨_, rfl⟩
    obtain ⟨F, hF⟩ : ∃ F, M.phi N = F := ⟨_, rfl⟩
    rw [hL] at l0 l1 r4 HL HD
    rw [hF] at HP HD
    have HR := Lib.hid r4
    have HG := Lib.hid r3
    have t1 : (F : Int).tmod L = (F : Int) % L := Int.tmod_eq_emod_of_nonneg (by omega)
    have t2 : ((F : Int) % L != 0) = false := by rw [HD.out]; rfl
    have t3 : ((L : Int) == 0) = false := by simp; omega
    have t4 : ¬ (L : Int) < 1 := by omega
    have t5 : ¬ (L : Int) = 0 := by omega
    clear w0 r3 r4 hL hF
    go_enter Try.func3, Try.ntmps3
    go_wp2_with fail
    refine HL.out.mono ?_
    rintro e w1 ⟨rfl, hb1⟩
    go_wp2_with (first | (go_at_call 13; refine (keep_modulus _ _).mono ?_; rintro e w' ⟨rfl, rfl⟩))
    refine (HP.out _).mono ?_
    rintro e w2 ⟨rfl, hb2⟩
    have hb12 := below_two hb1 hb2
    clear hb1 hb2
    go_wp2
    go_loopw [7] (fun g wr => ∃ G : Int, g = .int .i64 G ∧ 1 ≤ G ∧ G ≤ r ∧ Below w2.heap.size w2 wr) (fun g _ => (r - intOf g).toNat)
    case atStart => exact ⟨1, rfl, by omega, r1, Below.refl _ _⟩
    case round =>
      obtain ⟨G, rfl, g1, g2, hb⟩ := hrel
      have c1 : G ≤ (N : Int) := by omega
      have hf : farB G = false := by
        cases e : farB G
        · rfl
        · rcases farB_true e with h | h <;> omega
      by_cases hg : Int.gcd G N = 1
      · have HO := Lib.hid (power_Order G N wr hf m1 m2 hg)
        clear hg
        go_wp2_with fail
        refine HO.out.mono ?_
        rintro e w3 ⟨o, rfl, ho, o2, hb3⟩
        have hbb := below_two hb hb3
        by_cases hoL : o = L
        · subst hoL
          clear ho hb hb3 HO
          go_wp2
          go_ret
          exact ⟨rfl, below_two hb12 hbb⟩
        · have t6 : ((o : Int) == (L : Int)) = false := by simp; omega
          have hlt : G < r := by
            rcases Decidable.em (G < r) with h | h
            · exact h
            · obtain rfl : G = r := by omega
              have e1 := Nat.le_of_dvd (by omega) (ho.2.2 _ HR.out.2.1)
              have e2 := Nat.le_of_dvd ho.1 (HR.out.2.2 _ ho.2.1)
              omega
          clear ho hb hb3 HO hoL
          go_wp2
          go_round
          case rel => exact ⟨G + 1, by go_num, by omega, by omega, hbb⟩
          case measure => simp [intOf]; omega
      · have HO := Lib.hid (power_Order_none G N wr hf m1 m2 hg)
        have hlt : G < r := by
          rcases Decidable.em (G < r) with h | h
          · exact h
          · obtain rfl : G = r := by omega
            exact absurd HG.out hg
        clear hg
        go_wp2_with fail
        refine HO.out.mono ?_
        rintro e w3 ⟨rfl, hb3⟩
        have hbb := below_two hb hb3
        clear hb hb3 HO
        go_wp2
        go_round
        case rel => exact ⟨G + 1, by go_num, by omega, by omega, hbb⟩
        case measure => simp [intOf]; omega
end Go.Proofs.Ytceocooppjfjjaa
