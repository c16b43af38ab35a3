/- The walk of the statement LogBase, whole. -/
import Derived.Test.YtceocooppjfjjaaWLogB
namespace Go.Proofs.Ytceocooppjfjjaa
open Go.RowKit
set_option linter.unusedVariables false
set_option linter.unusedSimpArgs false
theorem ord_same {a m : Int} {k j : Nat} (h1 : M.IsOrd a m k) (h2 : M.IsOrd a m j) : k = j := by
  have e1 := Nat.le_of_dvd h2.1 (h1.2.2 _ h2.2.1)
  have e2 := Nat.le_of_dvd h1.1 (h2.2.2 _ h1.2.1)
  omega
set_option maxRecDepth 100000 in
set_option maxHeartbeats 6400000 in
theorem WLogBase (a0 : Int) (a1 : Int) (w : World) (w0 : (Lit.int .i64 a0).wf = true) (w1 : (Lit.int .i64 a1).wf = true) :
    Calls Try.prog 5 #[.int .i64 a0, .int .i64 a1] w fun e w' => e = .returned (.bool true) ∧ Below w.heap.size w w' := by
  by_cases hbad : ¬ logE0 a0 = 0
  · have hc : modB a0 = false ∨ (modB a0 = true ∧ 1 ≤ a0 ∧ a0 ≤ 1048576 ∧ prB a0 = false) := by
      cases h1 : modB a0 with
      | false => exact .inl rfl
      | true =>
        obtain ⟨m1, m2⟩ := modB_true h1
        refine .inr ⟨rfl, m1, m2, ?_⟩
        cases h2 : prB a0 with
        | false => rfl
        | true => exact absurd (by unfold logE0; rw [if_neg (by omega), if_pos h2]) hbad
    have HC := Lib.hid (log_Base_bad a0 w hbad)
    obtain ⟨T, hT⟩ : ∃ T, logE0 a0 = T := ⟨_, rfl⟩
    rw [hT] at HC hbad
    have t1 : (T != 0) = true := by simpa using hbad
    clear hbad hT w0 w1
    rcases hc with h1 | ⟨h1, m1, m2, h2⟩
    all_goals
      go_enter Try.func5, Try.ntmps5
      go_wp2_with (first
        | (go_at_call 13; refine (keep_modulus _ _).mono ?_; rintro e w' ⟨rfl, rfl⟩)
        | (go_at_call 16; refine (ref_Is _ _ (by omega)).mono ?_; rintro e w' ⟨rfl, rfl⟩)
        | (go_at_call 20; refine HC.out.mono ?_; rintro e w5 ⟨rfl, hb5⟩))
      go_ret
      exact ⟨rfl, hb5⟩
  replace hbad := Decidable.not_not.1 hbad
  obtain ⟨m1, m2, pp⟩ := logE0_zero hbad
  obtain ⟨N, rfl⟩ := Int.eq_ofNat_of_zero_le (show 0 ≤ a0 by omega)
  have hp : M.Pr N := by have := prB_true pp; simpa using this
  have n2 := hp.1
  have hmod : modB (N : Int) = true := by
    cases h : modB (N : Int)
    · rcases modB_false h with h | h <;> omega
    · rfl
  have HB := Lib.hid (log_Base (N : Int) w hbad)
  have HP := Lib.hid hp
  have z1 : ((N : Int) == 0) = false := by simp; omega
  have z2 : ¬ (N : Int) = 0 := by omega
  have z3 : IntKind.i64.wrap ((N : Int) - 1) = (N : Int) - 1 := IntWalk.i64_in _ (by omega)
  have hrem : (a1.tmod N == 0) = (a1 % N == 0) := by
    rw [Bool.eq_iff_iff, beq_iff_eq, beq_iff_eq]
    exact ⟨fun h => Int.emod_eq_zero_of_dvd (Int.dvd_of_tmod_eq_zero h), fun h => Int.tmod_eq_zero_of_dvd (Int.dvd_of_emod_eq_zero h)⟩
  have hc : farB a1 = true ∨ (farB a1 = false ∧ ((a1 % (N : Int) == 0) = true ∧ (a1.tmod N == 0) = true ∨ (a1 % (N : Int) == 0) = false ∧ (a1.tmod N == 0) = false)) := by
    rw [hrem]
    cases farB a1
    · cases (a1 % (N : Int) == 0) <;> simp
    · exact .inl rfl
  have HMa := Lib.hid fun w => ref_Mod a1 N w m1 (by omega)
  obtain ⟨A, hA⟩ : ∃ A, a1 % (N : Int) = A := ⟨_, rfl⟩
  rw [hA] at HMa
  have HA := Lib.hid hA
  clear hbad hp hrem w0 w1 hA
  go_enter Try.func5, Try.ntmps5
  go_wp2_with fail
  refine HB.out.mono ?_
  rintro e w1 ⟨g, rfl, g1, g2, HI, hb1⟩
  have HO := Lib.hid (power_Order g N w1 (far_small (by omega) (by omega)) m1 m2 (gcd_prime HP.out (not_dvd_small g1 g2)))
  have fg := far_small (x := g) (by omega) (by omega)
  go_wp2_with (first
    | (go_at_call 13; refine (keep_modulus _ _).mono ?_; rintro e w' ⟨rfl, rfl⟩)
    | (go_at_call 16; refine (ref_Is _ _ (by omega)).mono ?_; rintro e w' ⟨rfl, rfl⟩))
  refine HO.out.mono ?_
  rintro e w2 ⟨o, rfl, ho, o2, hb2⟩
  have eo : (o : Int) = (N : Int) - 1 := by have := ord_same ho HI.out; omega
  have t1 : ((o : Int) != (N : Int) - 1) = false := by rw [eo]; simp
  have t2 : ¬ (N : Int) < g := by omega
  have t3 : ¬ g < 1 := by omega
  have hb12 := below_two hb1 hb2
  have HIO := Lib.hid ho
  have HEO := Lib.hid eo
  clear hb1 hb2 ho eo HB HO
  rcases hc with h1 | ⟨h1, ⟨h2, h3⟩ | ⟨h2, h3⟩⟩
  · go_wp2_with (first | (go_at_call 17; refine (keep_near _ _).mono ?_; rintro e w' ⟨rfl, rfl⟩))
    go_ret
    exact ⟨rfl, hb12⟩
  · go_wp2_with (first | (go_at_call 17; refine (keep_near _ _).mono ?_; rintro e w' ⟨rfl, rfl⟩))
    go_ret
    exact ⟨rfl, hb12⟩
  · have hnd : ¬ (N : Int) ∣ a1 := fun h => by
      have := Int.emod_eq_zero_of_dvd h
      rw [this] at h2; simp at h2
    have hgm : g % (N : Int) = g := Int.emod_eq_of_lt (by omega) g2
    have HL := Lib.hid (log_Log_nm g a1 N w2 (logE_ok fg h1 m1 m2 pp) (by rw [hgm]; omega))
    have HEx := Lib.hid (M.prim_all HP.out (show M.IsOrd g N (N - 1) by have := HI.out; rwa [show ((N : Int) - 1).toNat = N - 1 by omega] at this) hnd)
    clear hnd hgm
    go_wp2_with (first | (go_at_call 17; refine (keep_near _ _).mono ?_; rintro e w' ⟨rfl, rfl⟩))
    refine HL.out.mono ?_
    rintro e w3 ⟨X, T, rfl, HX, hb3⟩
    have hb13 := below_two hb12 hb3
    rcases HX.out with ⟨E, hE, rfl, rfl⟩ | ⟨h, rfl⟩
    · have e1 := hE.lt HIO.out
      have e2 : (E : Int) < (N : Int) - 1 := by have := HEO.out; omega
      have HPw := Lib.hid (power_Pow g E N w3 fg (by omega) (by omega) m1 m2)
      rw [Int.toNat_natCast, hE.1, HA.out] at HPw
      have e3 : (0 : Int) ≤ E := by omega
      clear hE HL hb3 hb12
      go_wp2_with fail
      refine HPw.out.mono ?_
      rintro e w4 ⟨rfl, rfl⟩
      go_wp2_with fail
      refine (HMa.out _).mono ?_
      rintro e w4 ⟨rfl, rfl⟩
      go_wp2
      go_ret
      exact ⟨ret_bool (by simp), hb13⟩
    · obtain ⟨E, h4, h5⟩ := HEx.out
      exact (h E (by omega) h5).elim
end Go.Proofs.Ytceocooppjfjjaa
