/- The walk of the statement PowerEuler. -/
import Derived.Test.YtlabkedkamdomaaOrd2
import Derived.Test.YtlabkedkamdomaaPrPhi
import Derived.Test.YtlabkedkamdomaaRefGcd
namespace Go.Proofs.Ytlabkedkamdomaa
open Go.RowKit
set_option linter.unusedVariables false
set_option linter.unusedSimpArgs false
theorem ord_facts {a m : Int} {o : Nat} (h1 : 1 ≤ m) (hg : Int.gcd a m = 1) (h : M.IsOrd a m o) :
    ((M.phi m.toNat : Int) % (o : Int) = 0) ∧ ∀ k : Int, 0 ≤ k → (a ^ k.toNat % m == 1 % m) = (k % (o : Int) == 0) := by
  obtain ⟨n, rfl⟩ := Int.eq_ofNat_of_zero_le (show 0 ≤ m by omega)
  refine ⟨?_, fun k hk => ?_⟩
  · rw [Int.toNat_natCast]
    exact Int.emod_eq_zero_of_dvd (Int.natCast_dvd_natCast.2 (h.2.2 _ (M.pow_phi_int hg)))
  · obtain ⟨j, rfl⟩ := Int.eq_ofNat_of_zero_le hk
    rw [Int.toNat_natCast]
    apply Bool.eq_iff_iff.2
    rw [beq_iff_eq, beq_iff_eq]
    constructor
    · intro e
      exact Int.emod_eq_zero_of_dvd (Int.natCast_dvd_natCast.2 (h.2.2 j e))
    · intro e
      exact h.2.1.dvd (Int.natCast_dvd_natCast.1 (Int.dvd_of_emod_eq_zero e))
set_option maxHeartbeats 1600000 in
theorem WPowerEuler (a0 : Int) (a1 : Int) (a2 : Int) (w : World) (w0 : (Lit.int .i64 a0).wf = true) (w1 : (Lit.int .i64 a1).wf = true) (w2 : (Lit.int .i64 a2).wf = true) :
    Calls Try.prog 14 #[.int .i64 a0, .int .i64 a1, .int .i64 a2] w fun e w' => e = .returned (.bool true) ∧ Below w.heap.size w w' := by
  have b0 := wf64 w0
  have b1 := wf64 w1
  have b2 := wf64 w2
  clear w0 w1 w2
  by_cases ha : farB a0 = true
  · have H0 : Hid (farB a0 = true ∨ a1 < 1 ∨ 1048576 < a1) := .inl ha
    go_enter Try.func14, Try.ntmps14
    go_wp2_with fail
    refine (power_Order_out _ _ _ H0.out).mono ?_
    rintro e w' ⟨rfl, rfl⟩
    go_wp2_with (first | (go_at_call 18; refine (keep_near _ _).mono ?_; rintro e w' ⟨rfl, rfl⟩) | (go_at_call 16; refine (keep_modulus _ _).mono ?_; rintro e w' ⟨rfl, rfl⟩))
    go_ret
    exact ⟨rfl, Below.refl _ _⟩
  have ha' : farB a0 = false := by simpa using ha
  clear ha
  have ⟨f1, f2⟩ := farB_false ha'
  by_cases hm : modB a1 = true
  · obtain ⟨m1, m2⟩ := modB_true hm
    by_cases hg : Int.gcd a0 a1 = 1
    · have HGG := Lib.hid hg
      have HG : Hid (1 = Int.gcd a0 a1) := hg.symm
      clear hg
      by_cases hk : a2 < 0
      · skip
        go_enter Try.func14, Try.ntmps14
        go_wp2_with fail
        refine (power_Order _ _ _ ha' m1 m2 HGG.out).mono ?_
        rintro e wa ⟨o, rfl, hord, ol, hb1⟩
        obtain ⟨u1, u2⟩ := ord_facts m1 HGG.out hord
        have o1 := hord.1
        clear hord
        obtain ⟨p, hp⟩ : ∃ p : Nat, p = M.phi a1.toNat := ⟨_, rfl⟩
        have pl : p ≤ 1048576 := by rw [hp]; have := M.phi_le a1.toNat; omega
        rw [← hp] at u1
        have HPh := Lib.hid hp
        have U2 := Lib.hid u2
        clear hp u2
        have t1 : (p : Int).tmod o = (p : Int) % o := Int.tmod_eq_emod_of_nonneg (by omega)
        have z1 : ((o : Int) == 0) = false := by simp; omega
        have z2 : ¬ (o : Int) = 0 := by omega
        go_wp2_with (first | (go_at_call 18; refine (keep_near _ _).mono ?_; rintro e w' ⟨rfl, rfl⟩) | (go_at_call 16; refine (keep_modulus _ _).mono ?_; rintro e w' ⟨rfl, rfl⟩) | (go_at_call 20; refine (ref_Gcd _ _ _ (by omega) (by omega) (by omega) (by omega)).mono ?_; rintro e w' ⟨rfl, rfl⟩; rw [← HG.out]))
        refine (primes_Phi _ _ m1 m2).mono ?_
        rintro e wb ⟨rfl, hb2⟩
        rw [← HPh.out]
        go_wp2
        go_ret
        exact ⟨rfl, below_two hb1 hb2⟩
      · by_cases hk2 : 2147483648 < a2
        · skip
          go_enter Try.func14, Try.ntmps14
          go_wp2_with fail
          refine (power_Order _ _ _ ha' m1 m2 HGG.out).mono ?_
          rintro e wa ⟨o, rfl, hord, ol, hb1⟩
          obtain ⟨u1, u2⟩ := ord_facts m1 HGG.out hord
          have o1 := hord.1
          clear hord
          obtain ⟨p, hp⟩ : ∃ p : Nat, p = M.phi a1.toNat := ⟨_, rfl⟩
          have pl : p ≤ 1048576 := by rw [hp]; have := M.phi_le a1.toNat; omega
          rw [← hp] at u1
          have HPh := Lib.hid hp
          have U2 := Lib.hid u2
          clear hp u2
          have t1 : (p : Int).tmod o = (p : Int) % o := Int.tmod_eq_emod_of_nonneg (by omega)
          have z1 : ((o : Int) == 0) = false := by simp; omega
          have z2 : ¬ (o : Int) = 0 := by omega
          go_wp2_with (first | (go_at_call 18; refine (keep_near _ _).mono ?_; rintro e w' ⟨rfl, rfl⟩) | (go_at_call 16; refine (keep_modulus _ _).mono ?_; rintro e w' ⟨rfl, rfl⟩) | (go_at_call 20; refine (ref_Gcd _ _ _ (by omega) (by omega) (by omega) (by omega)).mono ?_; rintro e w' ⟨rfl, rfl⟩; rw [← HG.out]))
          refine (primes_Phi _ _ m1 m2).mono ?_
          rintro e wb ⟨rfl, hb2⟩
          rw [← HPh.out]
          go_wp2
          go_ret
          exact ⟨rfl, below_two hb1 hb2⟩
        · skip
          go_enter Try.func14, Try.ntmps14
          go_wp2_with fail
          refine (power_Order _ _ _ ha' m1 m2 HGG.out).mono ?_
          rintro e wa ⟨o, rfl, hord, ol, hb1⟩
          obtain ⟨u1, u2⟩ := ord_facts m1 HGG.out hord
          have o1 := hord.1
          clear hord
          obtain ⟨p, hp⟩ : ∃ p : Nat, p = M.phi a1.toNat := ⟨_, rfl⟩
          have pl : p ≤ 1048576 := by rw [hp]; have := M.phi_le a1.toNat; omega
          rw [← hp] at u1
          have HPh := Lib.hid hp
          have U2 := Lib.hid u2
          clear hp u2
          have t1 : (p : Int).tmod o = (p : Int) % o := Int.tmod_eq_emod_of_nonneg (by omega)
          have z1 : ((o : Int) == 0) = false := by simp; omega
          have z2 : ¬ (o : Int) = 0 := by omega
          go_wp2_with (first | (go_at_call 18; refine (keep_near _ _).mono ?_; rintro e w' ⟨rfl, rfl⟩) | (go_at_call 16; refine (keep_modulus _ _).mono ?_; rintro e w' ⟨rfl, rfl⟩) | (go_at_call 20; refine (ref_Gcd _ _ _ (by omega) (by omega) (by omega) (by omega)).mono ?_; rintro e w' ⟨rfl, rfl⟩; rw [← HG.out]))
          refine (primes_Phi _ _ m1 m2).mono ?_
          rintro e wb ⟨rfl, hb2⟩
          rw [← HPh.out]
          have v := U2.out a2 (by omega)
          obtain ⟨t, ht⟩ : ∃ t, (a2 % (o : Int) == 0) = t := ⟨_, rfl⟩
          rw [ht] at v
          have t2 : a2.tmod o = a2 % o := Int.tmod_eq_emod_of_nonneg (by omega)
          have t3 : (1 : Int).tmod a1 = 1 % a1 := Int.tmod_eq_emod_of_nonneg (by omega)
          have z3 : (a1 == 0) = false := by simp; omega
          have z4 : ¬ a1 = 0 := by omega
          cases t
          all_goals
            go_wp2_with (go_at_call 24; refine (power_Pow _ _ _ _ ha' (by omega) (by omega) m1 m2).mono ?_; rintro e w' ⟨rfl, rfl⟩)
            go_quiet (fail)
            go_wp2
            go_ret
            exact ⟨rfl, below_drewN (below_two hb1 hb2) _⟩
    · have HGG := Lib.hid hg
      obtain ⟨g, hG⟩ : ∃ g, g = Int.gcd a0 a1 := ⟨_, rfl⟩
      rw [← hG] at hg
      have HG := Lib.hid hG
      have q2 : ((g : Int) == 1) = false := by simp; omega
      have q3 : ((g : Int) != 1) = true := by simp; omega
      have q4 : ¬ (g : Int) = 1 := by omega
      clear hG
      go_enter Try.func14, Try.ntmps14
      go_wp2_with fail
      refine (power_Order_none _ _ _ ha' m1 m2 HGG.out).mono ?_
      rintro e wa ⟨rfl, hb1⟩
      go_wp2_with (first | (go_at_call 18; refine (keep_near _ _).mono ?_; rintro e w' ⟨rfl, rfl⟩) | (go_at_call 16; refine (keep_modulus _ _).mono ?_; rintro e w' ⟨rfl, rfl⟩) | (go_at_call 20; refine (ref_Gcd _ _ _ (by omega) (by omega) (by omega) (by omega)).mono ?_; rintro e w' ⟨rfl, rfl⟩; rw [← HG.out]))
      go_ret
      exact ⟨rfl, hb1⟩
  · have hm' : modB a1 = false := by simpa using hm
    clear hm
    have hmm := modB_false hm'
    have H0 : Hid (farB a0 = true ∨ a1 < 1 ∨ 1048576 < a1) := .inr hmm
    clear hmm
    go_enter Try.func14, Try.ntmps14
    go_wp2_with fail
    refine (power_Order_out _ _ _ H0.out).mono ?_
    rintro e w' ⟨rfl, rfl⟩
    go_wp2_with (first | (go_at_call 18; refine (keep_near _ _).mono ?_; rintro e w' ⟨rfl, rfl⟩) | (go_at_call 16; refine (keep_modulus _ _).mono ?_; rintro e w' ⟨rfl, rfl⟩))
    go_ret
    exact ⟨rfl, Below.refl _ _⟩
end Go.Proofs.Ytlabkedkamdomaa
