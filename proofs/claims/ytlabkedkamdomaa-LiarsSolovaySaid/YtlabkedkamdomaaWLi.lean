/- The walks of the statements LiarsPrime, LiarsChain. -/
import Derived.Test.YtlabkedkamdomaaLi
import Derived.Test.YtlabkedkamdomaaLiM
import Derived.Test.YtlabkedkamdomaaRefIs
namespace Go.Proofs.Ytlabkedkamdomaa
open Go.RowKit
set_option linter.unusedVariables false
set_option linter.unusedSimpArgs false
theorem ferB_iff {a n : Int} (h3 : 3 ≤ n) : ferB a n = true ↔ a ^ (n.toNat - 1) % (n.toNat : Int) = 1 := by
  unfold ferB
  rw [beq_iff_eq, show (n - 1).toNat = n.toNat - 1 by omega, Int.toNat_of_nonneg (by omega)]
theorem eulB_iff {a n : Int} (h3 : 3 ≤ n) : eulB a n = true ↔ M.Eul a n.toNat := by
  unfold eulB M.Eul
  rw [Bool.and_eq_true, bne_iff_ne, beq_iff_eq, show ((n - 1) / 2).toNat = (n.toNat - 1) / 2 by omega, Int.toNat_of_nonneg (by omega)]
theorem li_facts (a n : Int) (h3 : 3 ≤ n) (ho : n % 2 = 1) :
    (strB a n = true → eulB a n = true) ∧ (eulB a n = true → ferB a n = true) ∧ eulB 1 n = true ∧ strB 1 n = true ∧ (prB n = true → ¬ n ∣ a → strB a n = true) ∧ (n ∣ a → ferB a n = false ∧ eulB a n = false) := by
  have hn : ((n.toNat : Nat) : Int) = n := Int.toNat_of_nonneg (by omega)
  refine ⟨fun h => (eulB_iff h3).2 (M.eul_of_strong (by omega) (by omega) (strB_true h)), fun h => (ferB_iff h3).2 (M.fer_of_eul (by omega) (by omega) ((eulB_iff h3).1 h)),
    (eulB_iff h3).2 (M.eul_one (by omega)), strB_yes (M.strong_one (by omega)), fun h hd => strB_yes (M.strong_prime (prB_true h) (by omega) (by rw [hn]; exact hd)), fun hd => ⟨?_, ?_⟩⟩
  · have := M.not_fer (a := a) (n := n.toNat) (by omega) (by rw [hn]; exact hd)
    rw [← ferB_iff h3] at this; simpa using this
  · have := M.not_eul (a := a) (n := n.toNat) (by omega) (by rw [hn]; exact hd)
    rw [← eulB_iff h3] at this; simpa using this
theorem tmod_zero_iff {a n : Int} : a.tmod n = 0 ↔ n ∣ a := ⟨Int.dvd_of_tmod_eq_zero, fun h => Int.tmod_eq_zero_of_dvd h⟩
set_option maxHeartbeats 1600000 in
theorem WLiarsChain (a0 : Int) (a1 : Int) (w : World) (w0 : (Lit.int .i64 a0).wf = true) (w1 : (Lit.int .i64 a1).wf = true) :
    Calls Try.prog 10 #[.int .i64 a0, .int .i64 a1] w fun e w' => e = .returned (.bool true) ∧ Below w.heap.size w w' := by
  have b0 := wf64 w0
  have b1 := wf64 w1
  clear w0 w1
  by_cases ha : farB a0 = true
  · have H0 : askOut a0 a1 := .inl ha
    go_enter Try.func10, Try.ntmps10
    go_wp2_with (first | (go_at_call 18; refine (keep_near _ _).mono ?_; rintro e w' ⟨rfl, rfl⟩) | (go_at_call 26; refine (liars_Fermat_no _ _ _ H0).mono ?_; rintro e w' ⟨rfl, rfl⟩) | (go_at_call 27; refine (liars_Euler_no _ _ _ H0).mono ?_; rintro e w' ⟨rfl, rfl⟩) | (go_at_call 28; refine (liars_Strong_no _ _ _ H0).mono ?_; rintro e w' ⟨rfl, rfl⟩))
    go_ret
    exact ⟨rfl, Below.refl _ _⟩
  have ha' : farB a0 = false := by simpa using ha
  clear ha
  by_cases h3 : a1 < 3
  · have H0 : askOut a0 a1 := .inr (.inl h3)
    go_enter Try.func10, Try.ntmps10
    go_wp2_with (first | (go_at_call 18; refine (keep_near _ _).mono ?_; rintro e w' ⟨rfl, rfl⟩) | (go_at_call 26; refine (liars_Fermat_no _ _ _ H0).mono ?_; rintro e w' ⟨rfl, rfl⟩) | (go_at_call 27; refine (liars_Euler_no _ _ _ H0).mono ?_; rintro e w' ⟨rfl, rfl⟩) | (go_at_call 28; refine (liars_Strong_no _ _ _ H0).mono ?_; rintro e w' ⟨rfl, rfl⟩))
    go_ret
    exact ⟨rfl, Below.refl _ _⟩
  by_cases h2 : 1048576 < a1
  · have H0 : askOut a0 a1 := .inr (.inr (.inl h2))
    replace h3 : 3 ≤ a1 := by omega
    go_enter Try.func10, Try.ntmps10
    go_wp2_with (first | (go_at_call 18; refine (keep_near _ _).mono ?_; rintro e w' ⟨rfl, rfl⟩) | (go_at_call 26; refine (liars_Fermat_no _ _ _ H0).mono ?_; rintro e w' ⟨rfl, rfl⟩) | (go_at_call 27; refine (liars_Euler_no _ _ _ H0).mono ?_; rintro e w' ⟨rfl, rfl⟩) | (go_at_call 28; refine (liars_Strong_no _ _ _ H0).mono ?_; rintro e w' ⟨rfl, rfl⟩))
    go_ret
    exact ⟨rfl, Below.refl _ _⟩
  replace h3 : 3 ≤ a1 := by omega
  replace h2 : a1 ≤ 1048576 := by omega
  by_cases ho : a1 % 2 = 0
  · have H0 : askOut a0 a1 := .inr (.inr (.inr ho))
    have z : (a1 % 2 == 0) = true := by simp [ho]
    clear ho
    go_enter Try.func10, Try.ntmps10
    go_wp2_with (first | (go_at_call 18; refine (keep_near _ _).mono ?_; rintro e w' ⟨rfl, rfl⟩) | (go_at_call 26; refine (liars_Fermat_no _ _ _ H0).mono ?_; rintro e w' ⟨rfl, rfl⟩) | (go_at_call 27; refine (liars_Euler_no _ _ _ H0).mono ?_; rintro e w' ⟨rfl, rfl⟩) | (go_at_call 28; refine (liars_Strong_no _ _ _ H0).mono ?_; rintro e w' ⟨rfl, rfl⟩))
    go_ret
    exact ⟨rfl, Below.refl _ _⟩
  have z : (a1 % 2 == 0) = false := by simp [ho]
  have HO : Hid (a1 % 2 = 1) := by show a1 % 2 = 1; omega
  clear ho
  have ⟨f1, f2, f3, f4, f5, f6⟩ := li_facts a0 a1 h3 HO.out
  clear f4 f5 f6
  by_cases c1 : strB a0 a1 = true
  · have c2 := f1 c1
    have c3 := f2 c2
    clear f1 f2
    go_enter Try.func10, Try.ntmps10
    go_wp2_with (first | (go_at_call 18; refine (keep_near _ _).mono ?_; rintro e w' ⟨rfl, rfl⟩) | (go_at_call 26; refine (liars_Fermat _ _ _ (by first | exact ha' | rfl) h3 h2 HO.out).mono ?_; rintro e w' ⟨rfl, rfl⟩) | (go_at_call 27; refine (liars_Euler _ _ _ (by first | exact ha' | rfl) h3 h2 HO.out).mono ?_; rintro e w' ⟨rfl, rfl⟩) | (go_at_call 28; refine (liars_Strong _ _ _ (by first | exact ha' | rfl) h3 h2 HO.out).mono ?_; rintro e w' ⟨rfl, rfl⟩))
    go_ret
    exact ⟨rfl, Below.refl _ _⟩
  have c1' : strB a0 a1 = false := by simpa using c1
  clear c1
  by_cases c2 : eulB a0 a1 = true
  · have c3 := f2 c2
    clear f1 f2
    go_enter Try.func10, Try.ntmps10
    go_wp2_with (first | (go_at_call 18; refine (keep_near _ _).mono ?_; rintro e w' ⟨rfl, rfl⟩) | (go_at_call 26; refine (liars_Fermat _ _ _ (by first | exact ha' | rfl) h3 h2 HO.out).mono ?_; rintro e w' ⟨rfl, rfl⟩) | (go_at_call 27; refine (liars_Euler _ _ _ (by first | exact ha' | rfl) h3 h2 HO.out).mono ?_; rintro e w' ⟨rfl, rfl⟩) | (go_at_call 28; refine (liars_Strong _ _ _ (by first | exact ha' | rfl) h3 h2 HO.out).mono ?_; rintro e w' ⟨rfl, rfl⟩))
    go_ret
    exact ⟨rfl, Below.refl _ _⟩
  have c2' : eulB a0 a1 = false := by simpa using c2
  clear c2 f1 f2
  go_enter Try.func10, Try.ntmps10
  go_wp2_with (first | (go_at_call 18; refine (keep_near _ _).mono ?_; rintro e w' ⟨rfl, rfl⟩) | (go_at_call 26; refine (liars_Fermat _ _ _ (by first | exact ha' | rfl) h3 h2 HO.out).mono ?_; rintro e w' ⟨rfl, rfl⟩) | (go_at_call 27; refine (liars_Euler _ _ _ (by first | exact ha' | rfl) h3 h2 HO.out).mono ?_; rintro e w' ⟨rfl, rfl⟩) | (go_at_call 28; refine (liars_Strong _ _ _ (by first | exact ha' | rfl) h3 h2 HO.out).mono ?_; rintro e w' ⟨rfl, rfl⟩))
  go_ret
  exact ⟨rfl, Below.refl _ _⟩
set_option maxHeartbeats 1600000 in
theorem WLiarsPrime (a0 : Int) (a1 : Int) (w : World) (w0 : (Lit.int .i64 a0).wf = true) (w1 : (Lit.int .i64 a1).wf = true) :
    Calls Try.prog 9 #[.int .i64 a0, .int .i64 a1] w fun e w' => e = .returned (.bool true) ∧ Below w.heap.size w w' := by
  have b0 := wf64 w0
  have b1 := wf64 w1
  clear w0 w1
  by_cases ha : farB a0 = true
  · have H0 : askOut a0 a1 := .inl ha
    go_enter Try.func9, Try.ntmps9
    go_wp2_with (first | (go_at_call 18; refine (keep_near _ _).mono ?_; rintro e w' ⟨rfl, rfl⟩) | (go_at_call 26; refine (liars_Fermat_no _ _ _ H0).mono ?_; rintro e w' ⟨rfl, rfl⟩) | (go_at_call 27; refine (liars_Euler_no _ _ _ H0).mono ?_; rintro e w' ⟨rfl, rfl⟩) | (go_at_call 28; refine (liars_Strong_no _ _ _ H0).mono ?_; rintro e w' ⟨rfl, rfl⟩))
    go_ret
    exact ⟨rfl, Below.refl _ _⟩
  have ha' : farB a0 = false := by simpa using ha
  clear ha
  by_cases h3 : a1 < 3
  · have H0 : askOut a0 a1 := .inr (.inl h3)
    go_enter Try.func9, Try.ntmps9
    go_wp2_with (first | (go_at_call 18; refine (keep_near _ _).mono ?_; rintro e w' ⟨rfl, rfl⟩) | (go_at_call 26; refine (liars_Fermat_no _ _ _ H0).mono ?_; rintro e w' ⟨rfl, rfl⟩) | (go_at_call 27; refine (liars_Euler_no _ _ _ H0).mono ?_; rintro e w' ⟨rfl, rfl⟩) | (go_at_call 28; refine (liars_Strong_no _ _ _ H0).mono ?_; rintro e w' ⟨rfl, rfl⟩))
    go_ret
    exact ⟨rfl, Below.refl _ _⟩
  by_cases h2 : 1048576 < a1
  · have H0 : askOut a0 a1 := .inr (.inr (.inl h2))
    replace h3 : 3 ≤ a1 := by omega
    go_enter Try.func9, Try.ntmps9
    go_wp2_with (first | (go_at_call 18; refine (keep_near _ _).mono ?_; rintro e w' ⟨rfl, rfl⟩) | (go_at_call 26; refine (liars_Fermat_no _ _ _ H0).mono ?_; rintro e w' ⟨rfl, rfl⟩) | (go_at_call 27; refine (liars_Euler_no _ _ _ H0).mono ?_; rintro e w' ⟨rfl, rfl⟩) | (go_at_call 28; refine (liars_Strong_no _ _ _ H0).mono ?_; rintro e w' ⟨rfl, rfl⟩))
    go_ret
    exact ⟨rfl, Below.refl _ _⟩
  replace h3 : 3 ≤ a1 := by omega
  replace h2 : a1 ≤ 1048576 := by omega
  by_cases ho : a1 % 2 = 0
  · have H0 : askOut a0 a1 := .inr (.inr (.inr ho))
    have z : (a1 % 2 == 0) = true := by simp [ho]
    clear ho
    go_enter Try.func9, Try.ntmps9
    go_wp2_with (first | (go_at_call 18; refine (keep_near _ _).mono ?_; rintro e w' ⟨rfl, rfl⟩) | (go_at_call 26; refine (liars_Fermat_no _ _ _ H0).mono ?_; rintro e w' ⟨rfl, rfl⟩) | (go_at_call 27; refine (liars_Euler_no _ _ _ H0).mono ?_; rintro e w' ⟨rfl, rfl⟩) | (go_at_call 28; refine (liars_Strong_no _ _ _ H0).mono ?_; rintro e w' ⟨rfl, rfl⟩))
    go_ret
    exact ⟨rfl, Below.refl _ _⟩
  have z : (a1 % 2 == 0) = false := by simp [ho]
  have HO : Hid (a1 % 2 = 1) := by show a1 % 2 = 1; omega
  clear ho
  have ⟨f1, f2, f3, f4, f5, f6⟩ := li_facts a0 a1 h3 HO.out
  clear f3
  have z0 : (a1 == 0) = false := by simp; omega
  by_cases hz : a0.tmod a1 = 0
  · have hd := tmod_zero_iff.1 hz
    obtain ⟨c1, c2⟩ := f6 hd
    have c3 : strB a0 a1 = false := by
      apply Bool.eq_false_iff.2
      intro h
      rw [f1 h] at c2; cases c2
    clear f1 f2 f5 f6 hd
    by_cases hp : prB a1 = true
    · go_enter Try.func9, Try.ntmps9
      go_wp2_with (first | (go_at_call 18; refine (keep_near _ _).mono ?_; rintro e w' ⟨rfl, rfl⟩) | (go_at_call 17; refine (ref_Is _ _ (by omega)).mono ?_; rintro e w' ⟨rfl, rfl⟩) | (go_at_call 26; refine (liars_Fermat _ _ _ (by first | exact ha' | rfl) h3 h2 HO.out).mono ?_; rintro e w' ⟨rfl, rfl⟩) | (go_at_call 27; refine (liars_Euler _ _ _ (by first | exact ha' | rfl) h3 h2 HO.out).mono ?_; rintro e w' ⟨rfl, rfl⟩) | (go_at_call 28; refine (liars_Strong _ _ _ (by first | exact ha' | rfl) h3 h2 HO.out).mono ?_; rintro e w' ⟨rfl, rfl⟩))
      go_ret
      exact ⟨rfl, Below.refl _ _⟩
    have hp' : prB a1 = false := by simpa using hp
    clear hp
    go_enter Try.func9, Try.ntmps9
    go_wp2_with (first | (go_at_call 18; refine (keep_near _ _).mono ?_; rintro e w' ⟨rfl, rfl⟩) | (go_at_call 17; refine (ref_Is _ _ (by omega)).mono ?_; rintro e w' ⟨rfl, rfl⟩) | (go_at_call 26; refine (liars_Fermat _ _ _ (by first | exact ha' | rfl) h3 h2 HO.out).mono ?_; rintro e w' ⟨rfl, rfl⟩) | (go_at_call 27; refine (liars_Euler _ _ _ (by first | exact ha' | rfl) h3 h2 HO.out).mono ?_; rintro e w' ⟨rfl, rfl⟩) | (go_at_call 28; refine (liars_Strong _ _ _ (by first | exact ha' | rfl) h3 h2 HO.out).mono ?_; rintro e w' ⟨rfl, rfl⟩))
    go_ret
    exact ⟨rfl, Below.refl _ _⟩
  have hd : ¬ a1 ∣ a0 := fun h => hz (tmod_zero_iff.2 h)
  by_cases hp : prB a1 = true
  · have c1 := f5 hp hd
    have c2 := f1 c1
    have c3 := f2 c2
    clear f1 f2 f5 f6 hd
    go_enter Try.func9, Try.ntmps9
    go_wp2_with (first | (go_at_call 18; refine (keep_near _ _).mono ?_; rintro e w' ⟨rfl, rfl⟩) | (go_at_call 17; refine (ref_Is _ _ (by omega)).mono ?_; rintro e w' ⟨rfl, rfl⟩) | (go_at_call 26; refine (liars_Fermat _ _ _ (by first | exact ha' | rfl) h3 h2 HO.out).mono ?_; rintro e w' ⟨rfl, rfl⟩) | (go_at_call 27; refine (liars_Euler _ _ _ (by first | exact ha' | rfl) h3 h2 HO.out).mono ?_; rintro e w' ⟨rfl, rfl⟩) | (go_at_call 28; refine (liars_Strong _ _ _ (by first | exact ha' | rfl) h3 h2 HO.out).mono ?_; rintro e w' ⟨rfl, rfl⟩))
    go_ret
    exact ⟨rfl, Below.refl _ _⟩
  have hp' : prB a1 = false := by simpa using hp
  clear hp f1 f2 f5 f6 hd
  go_enter Try.func9, Try.ntmps9
  go_wp2_with (first | (go_at_call 18; refine (keep_near _ _).mono ?_; rintro e w' ⟨rfl, rfl⟩) | (go_at_call 17; refine (ref_Is _ _ (by omega)).mono ?_; rintro e w' ⟨rfl, rfl⟩) | (go_at_call 26; refine (liars_Fermat _ _ _ (by first | exact ha' | rfl) h3 h2 HO.out).mono ?_; rintro e w' ⟨rfl, rfl⟩) | (go_at_call 27; refine (liars_Euler _ _ _ (by first | exact ha' | rfl) h3 h2 HO.out).mono ?_; rintro e w' ⟨rfl, rfl⟩) | (go_at_call 28; refine (liars_Strong _ _ _ (by first | exact ha' | rfl) h3 h2 HO.out).mono ?_; rintro e w' ⟨rfl, rfl⟩))
  go_ret
  exact ⟨rfl, Below.refl _ _⟩
end Go.Proofs.Ytlabkedkamdomaa
