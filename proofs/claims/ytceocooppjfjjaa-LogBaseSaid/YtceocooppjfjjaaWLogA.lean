/- The walk of the statement LogAdds. -/
import Derived.Test.YtceocooppjfjjaaLog3
import Derived.Test.YtceocooppjfjjaaLogQ
import Derived.Test.YtceocooppjfjjaaOrd2
import Derived.Test.YtceocooppjfjjaaRefIs
namespace Go.Proofs.Ytceocooppjfjjaa
open Go.RowKit
set_option linter.unusedVariables false
set_option linter.unusedSimpArgs false
/-- some answer -/
def LogAny (w : World) (e : Ending) (w' : World) : Prop := ∃ x t : Int, e = .returned (.tuple #[.int .i64 x, .int .i64 t]) ∧ Below w.heap.size w w'
theorem log_Log_any (g a p : Int) (w : World) : Calls Try.prog 18 #[.int .i64 g, .int .i64 a, .int .i64 p] w (LogAny w) := by
  by_cases h : logE p g a = 0
  · by_cases hg : g % p = 0
    · refine (log_Log_zero g a p w h hg).mono ?_
      rintro e w' ⟨⟨x, t, h1⟩, h2⟩
      exact ⟨x, t, h1, h2⟩
    · refine (log_Log g a p w h hg).mono ?_
      rintro e w' ⟨⟨E, _, h1⟩ | ⟨_, h1⟩, h2⟩
      · exact ⟨_, _, h1, h2⟩
      · exact ⟨_, _, h1, h2⟩
  · refine (log_Log_bad g a p w h).mono ?_
    rintro e w' ⟨h1, h2⟩
    exact ⟨_, _, h1, h2⟩
/-- what log.Log answers, with its values named -/
def LogTwo (g a p : Int) (X T : Int) : Prop := (∃ E : Nat, LeastE g a p E ∧ X = E ∧ T = 0) ∨ ((∀ e' : Nat, (e' : Int) ≤ p → g ^ e' % p ≠ a % p) ∧ T = 5)
def LogNm (g a p : Int) (w : World) (e : Ending) (w' : World) : Prop := ∃ X T : Int, e = .returned (.tuple #[.int .i64 X, .int .i64 T]) ∧ Hid (LogTwo g a p X T) ∧ Below w.heap.size w w'
theorem log_Log_nm (g a p : Int) (w : World) (h1 : logE p g a = 0) (h2 : ¬ g % p = 0) : Calls Try.prog 18 #[.int .i64 g, .int .i64 a, .int .i64 p] w (LogNm g a p w) := by
  refine (log_Log g a p w h1 h2).mono ?_
  rintro e w' ⟨⟨E, h3, h4⟩ | ⟨h3, h4⟩, h5⟩
  · exact ⟨_, _, h4, Lib.hid (.inl ⟨E, h3, rfl, rfl⟩), h5⟩
  · exact ⟨_, _, h4, Lib.hid (.inr ⟨h3, rfl⟩), h5⟩
theorem LogTwo.one {g p X T : Int} (hp : 1 ≤ p) (h : LogTwo g 1 p X T) : X = 0 ∧ T = 0 := by
  rcases h with ⟨E, h1, h2, h3⟩ | ⟨h1, h2⟩
  · exact ⟨by rw [h2, least_one h1]; rfl, h3⟩
  · exact absurd (by simp) (h1 0 (by omega))
set_option maxRecDepth 100000 in
set_option maxHeartbeats 6400000 in
theorem WLogAdds (a0 : Int) (a1 : Int) (a2 : Int) (a3 : Int) (w : World) (w0 : (Lit.int .i64 a0).wf = true) (w1 : (Lit.int .i64 a1).wf = true) (w2 : (Lit.int .i64 a2).wf = true) (w3 : (Lit.int .i64 a3).wf = true) :
    Calls Try.prog 4 #[.int .i64 a0, .int .i64 a1, .int .i64 a2, .int .i64 a3] w fun e w' => e = .returned (.bool true) ∧ Below w.heap.size w w' := by
  by_cases hbad : ¬ logE a3 a0 a1 = 0
  · have hc : modB a3 = false ∨ (modB a3 = true ∧ 1 ≤ a3 ∧ a3 ≤ 1048576 ∧ (prB a3 = false ∨ (prB a3 = true ∧ (farB a0 = true ∨ (farB a0 = false ∧ farB a1 = true))))) := by
      cases h1 : modB a3 with
      | false => exact .inl rfl
      | true =>
        obtain ⟨m1, m2⟩ := modB_true h1
        refine .inr ⟨rfl, m1, m2, ?_⟩
        cases h2 : prB a3 with
        | false => exact .inl rfl
        | true =>
          refine .inr ⟨rfl, ?_⟩
          cases h3 : farB a0 with
          | true => exact .inl rfl
          | false =>
            refine .inr ⟨rfl, ?_⟩
            cases h4 : farB a1 with
            | true => rfl
            | false => exact absurd (logE_ok h3 h4 m1 m2 h2) hbad
    have HC := Lib.hid (log_Log_bad a0 a1 a3 w hbad)
    obtain ⟨T, hT⟩ : ∃ T, logE a3 a0 a1 = T := ⟨_, rfl⟩
    rw [hT] at HC hbad
    have t1 : (T != 0) = true := by simpa using hbad
    clear hbad hT w0 w1 w2 w3
    rcases hc with h1 | ⟨h1, m1, m2, (h2 | ⟨h2, (h3 | ⟨h3, h4⟩)⟩)⟩
    all_goals
      go_enter Try.func4, Try.ntmps4
      go_wp2_with (first
        | (go_at_call 17; refine (keep_near _ _).mono ?_; rintro e w' ⟨rfl, rfl⟩)
        | (go_at_call 13; refine (keep_modulus _ _).mono ?_; rintro e w' ⟨rfl, rfl⟩)
        | (go_at_call 16; refine (ref_Is _ _ (by omega)).mono ?_; rintro e w' ⟨rfl, rfl⟩)
        | (go_at_call 18; refine HC.out.mono ?_; rintro e w5 ⟨rfl, hb5⟩))
      go_ret
      exact ⟨rfl, hb5⟩
  replace hbad := Decidable.not_not.1 hbad
  obtain ⟨f0, f1, m1, m2, pp⟩ := logE_zero hbad
  have hmod : modB a3 = true := by
    cases h : modB a3
    · rcases modB_false h with h | h <;> omega
    · rfl
  have p3 : 2 ≤ a3 := by have := (prB_true pp).1; omega
  have z1 : (a3 == 0) = false := by simp; omega
  have z2 : ¬ a3 = 0 := by omega
  have hrem : (a0.tmod a3 == 0) = (a0 % a3 == 0) := by
    rw [Bool.eq_iff_iff, beq_iff_eq, beq_iff_eq]
    exact ⟨fun h => Int.emod_eq_zero_of_dvd (Int.dvd_of_tmod_eq_zero h), fun h => Int.tmod_eq_zero_of_dvd (Int.dvd_of_emod_eq_zero h)⟩
  by_cases hf : farB a2 = true ∨ a0 % a3 = 0
  · have HC := Lib.hid (log_Log_any a0 a1 a3 w)
    have hc : farB a2 = true ∨ (farB a2 = false ∧ (a0 % a3 == 0) = true ∧ (a0.tmod a3 == 0) = true) := by
      rw [hrem]
      cases h : farB a2
      · rcases hf with h2 | h2
        · rw [h] at h2; cases h2
        · exact .inr ⟨rfl, by simp [h2]⟩
      · exact .inl rfl
    clear hbad hrem hf w0 w1 w2 w3
    rcases hc with h1 | ⟨h1, h2, h3⟩
    all_goals
      go_enter Try.func4, Try.ntmps4
      go_wp2_with (first
        | (go_at_call 17; refine (keep_near _ _).mono ?_; rintro e w' ⟨rfl, rfl⟩)
        | (go_at_call 13; refine (keep_modulus _ _).mono ?_; rintro e w' ⟨rfl, rfl⟩)
        | (go_at_call 16; refine (ref_Is _ _ (by omega)).mono ?_; rintro e w' ⟨rfl, rfl⟩)
        | (go_at_call 18; refine HC.out.mono ?_; rintro e w5 ⟨x, t, rfl, hb5⟩))
      go_ret
      exact ⟨rfl, hb5⟩
  · have f2 : farB a2 = false := by
      cases h : farB a2
      · rfl
      · exact absurd (Or.inl h) hf
    have hg : ¬ a0 % a3 = 0 := fun h => hf (.inr h)
    have h2 : (a0 % a3 == 0) = false := by simpa using hg
    have h3 : (a0.tmod a3 == 0) = false := by rw [hrem]; exact h2
    clear hf hrem hmod w0 w1 w2 w3
    obtain ⟨N, rfl⟩ := Int.eq_ofNat_of_zero_le (show 0 ≤ a3 by omega)
    have hp : M.Pr N := by have := prB_true pp; simpa using this
    have hnd : ¬ (N : Int) ∣ a0 := fun hd => hg (Int.emod_eq_zero_of_dvd hd)
    obtain ⟨A, hA⟩ : ∃ A, a1 % (N : Int) = A := ⟨_, rfl⟩
    obtain ⟨B, hB⟩ : ∃ B, a2 % (N : Int) = B := ⟨_, rfl⟩
    have x1 : 0 ≤ A := by rw [← hA]; exact Int.emod_nonneg _ (by omega)
    have x2 : A < N := by rw [← hA]; exact Int.emod_lt_of_pos _ (by omega)
    have y1 : 0 ≤ B := by rw [← hB]; exact Int.emod_nonneg _ (by omega)
    have y2 : B < N := by rw [← hB]; exact Int.emod_lt_of_pos _ (by omega)
    have n1 := mul_lim x1 (by omega) y1 (by omega)
    have n2 : IntKind.i64.wrap (A * B) = A * B := IntWalk.i64_in _ (by omega)
    have n3 : (A * B).tmod N = A * B % N := Int.tmod_eq_emod_of_nonneg (by omega)
    obtain ⟨C, hC⟩ : ∃ C, A * B % (N : Int) = C := ⟨_, rfl⟩
    have v1 : 0 ≤ C := by rw [← hC]; exact Int.emod_nonneg _ (by omega)
    have v2 : C < N := by rw [← hC]; exact Int.emod_lt_of_pos _ (by omega)
    have HCC : Hid (C % (N : Int) = a1 * a2 % N) := Lib.hid (by rw [← hC, ← hA, ← hB, Int.emod_emod, ← Int.mul_emod])
    have far_in : ∀ x : Int, 0 ≤ x → x ≤ 1048576 → farB x = false := fun x h1 h2 => by
      cases e : farB x
      · rfl
      · rcases farB_true e with h | h <;> omega
    have e1 := logE_ok f0 (far_in 1 (by omega) (by omega)) m1 m2 pp
    have e2 := logE_ok f0 f2 m1 m2 pp
    have e3 := logE_ok f0 (far_in C (by omega) (by omega)) m1 m2 pp
    have HLa := Lib.hid fun w => log_Log_nm a0 a1 N w hbad hg
    have HLb := Lib.hid fun w => log_Log_nm a0 a2 N w e2 hg
    have HL1 := Lib.hid fun w => log_Log_nm a0 1 N w e1 hg
    have HLc := Lib.hid fun w => log_Log_nm a0 C N w e3 hg
    have HO := Lib.hid fun w => power_Order a0 N w f0 m1 m2 (gcd_prime hp hnd)
    have HMa := Lib.hid fun w => ref_Mod a1 N w m1 (by omega)
    have HMb := Lib.hid fun w => ref_Mod a2 N w m1 (by omega)
    rw [hA] at HMa
    rw [hB] at HMb
    have HP := Lib.hid hp
    have HD := Lib.hid hnd
    have hmod : modB (N : Int) = true := by
      cases h : modB (N : Int)
      · rcases modB_false h with h | h <;> omega
      · rfl
    clear hbad e1 e2 e3 far_in hp hnd hg hA hB
    go_enter Try.func4, Try.ntmps4
    go_wp2_with (first
      | (go_at_call 17; refine (keep_near _ _).mono ?_; rintro e w' ⟨rfl, rfl⟩)
      | (go_at_call 13; refine (keep_modulus _ _).mono ?_; rintro e w' ⟨rfl, rfl⟩)
      | (go_at_call 16; refine (ref_Is _ _ (by omega)).mono ?_; rintro e w' ⟨rfl, rfl⟩))
    refine (HLa.out _).mono ?_
    rintro e w1 ⟨J, T1, rfl, HJ, hb1⟩
    go_wp2_with fail
    refine (HLb.out _).mono ?_
    rintro e w2 ⟨K, T2, rfl, HK, hb2⟩
    have hb12 := below_two hb1 hb2
    clear hb1 hb2
    go_wp2_with fail
    refine (HO.out _).mono ?_
    rintro e w3 ⟨o, rfl, ho, o2, hb3⟩
    have o1 : 1 ≤ o := ho.1
    have HIO := Lib.hid ho
    have hb13 := below_two hb12 hb3
    clear ho hb12 hb3
    go_wp2_with fail
    refine (HL1.out _).mono ?_
    rintro e w4 ⟨Z, T3, rfl, HZ, hb4⟩
    obtain ⟨rfl, rfl⟩ := HZ.out.one m1
    have hb14 := below_two hb13 hb4
    clear hb13 hb4 HZ
    rcases HJ.out with ⟨j, hj, rfl, rfl⟩ | ⟨-, rfl⟩
    · rcases HK.out with ⟨k, hk, rfl, rfl⟩ | ⟨-, rfl⟩
      · obtain ⟨q1, q2, q3, q4⟩ := log_adds HP.out HD.out HIO.out hj hk HCC.out
        have HQ3 := Lib.hid q3
        have HQ4 := Lib.hid q4
        have s1 : IntKind.i64.wrap ((j : Int) + k) = (j : Int) + k := IntWalk.i64_in _ (by omega)
        have s2 : ((j : Int) + k).tmod o = ((j : Int) + k) % o := Int.tmod_eq_emod_of_nonneg (by omega)
        have s3 : ((o : Int) == 0) = false := by simp; omega
        have s4 : ¬ (o : Int) = 0 := by omega
        have s5 : (1 : Int) ≤ o := by omega
        have s6 : (j : Int) < o := by omega
        have s7 : (k : Int) < o := by omega
        clear hj hk q3 q4
        go_wp2_with fail
        refine (HMa.out _).mono ?_
        rintro e w5 ⟨rfl, rfl⟩
        go_wp2_with fail
        refine (HMb.out _).mono ?_
        rintro e w5 ⟨rfl, rfl⟩
        go_wp2_with fail
        refine (HLc.out _).mono ?_
        rintro e w5 ⟨l, T4, rfl, HL, hb5⟩
        rcases HL.out with ⟨E, hE, rfl, rfl⟩ | ⟨h, rfl⟩
        · have hl : ((E : Int) == ((j : Int) + k) % o) = true := by rw [HQ4.out E hE]; simp
          clear hE
          go_wp2
          go_ret
          exact ⟨rfl, below_two hb14 hb5⟩
        · exact (HQ3.out h).elim
      · go_wp2
        go_ret
        exact ⟨rfl, hb14⟩
    · go_wp2
      go_ret
      exact ⟨rfl, hb14⟩
end Go.Proofs.Ytceocooppjfjjaa
