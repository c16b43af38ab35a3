/- The walk of the statement LiarsSolovay. -/
import Derived.Test.YtlabkedkamdomaaWLi
import Derived.Test.YtlabkedkamdomaaSolM
import Derived.Test.YtlabkedkamdomaaPrPhi
namespace Go.Proofs.Ytlabkedkamdomaa
open Go.RowKit
set_option linter.unusedVariables false
set_option linter.unusedSimpArgs false
def eulN (n : Int) (x : Nat) : Bool := eulB x n
theorem eulN_cop {n : Int} (h3 : 3 ≤ n) (ho : n % 2 = 1) (x : Nat) (h : eulN n x = true) : Nat.Coprime n.toNat x ∧ x ^ (n.toNat - 1) % n.toNat = 1 := by
  have h1 := (eulB_iff h3).1 h
  have h2 := M.fer_of_eul (by omega) (by omega) h1
  refine ⟨?_, ?_⟩
  · have := mt M.jac_zero_iff.2 h1.1
    have h4 : Int.gcd (x : Int) (n.toNat : Int) = 1 := by
      apply Classical.byContradiction
      intro hne
      exact this hne
    have h5 : Nat.gcd x n.toNat = 1 := h4
    unfold Nat.Coprime
    rw [Nat.gcd_comm]; exact h5
  · have e := M.natCast_pow_emod x n.toNat (n.toNat - 1)
    rw [h2] at e
    omega
theorem sol_facts {n : Int} (h3 : 3 ≤ n) (hn : n ≤ 500) (ho : n % 2 = 1) :
    (prB n = true → M.cnt (eulN n) n.toNat = M.phi n.toNat) ∧ (prB n = false → 1 ≤ M.cnt (eulN n) n.toNat ∧ 2 * M.cnt (eulN n) n.toNat ≤ M.phi n.toNat) := by
  have h0 : eulN n 0 = false := ((li_facts 0 n h3 ho).2.2.2.2.2 (Int.dvd_zero n)).2
  have h1 : eulN n 1 = true := (li_facts 0 n h3 ho).2.2.1
  refine ⟨fun hp => ?_, fun hp => ⟨M.cnt_pos 1 (by omega) h1, ?_⟩⟩
  · rw [M.phi_prime (prB_true hp)]
    refine M.cnt_all _ h0 fun x hx hxn => ?_
    have f := li_facts x n h3 ho
    refine f.1 (f.2.2.2.2.1 hp fun hd => ?_)
    have := Int.le_of_dvd (by omega) hd
    omega
  · obtain ⟨b, hb, hbn⟩ := M.witness (n := n.toNat) (by omega) (by omega) (by omega) (prB_false hp)
    exact M.solovay (by omega) hb hbn _ (eulN_cop h3 ho)
theorem cnt_step (n : Int) (a : Nat) : (M.cnt (eulN n) (a + 1) : Int) = M.cnt (eulN n) a + (if eulB a n = true then 1 else 0) := by
  show ((M.cnt (eulN n) a + (eulN n a).toNat : Nat) : Int) = _
  unfold eulN
  cases h : eulB a n <;> simp
theorem cnt_lim (n : Int) : ∀ a, M.cnt (eulN n) a ≤ a
  | 0 => Nat.le_refl 0
  | a + 1 => by
    have := cnt_lim n a
    show M.cnt (eulN n) a + (eulN n a).toNat ≤ a + 1
    have := Bool.toNat_le (eulN n a); omega
set_option maxHeartbeats 1600000 in
theorem WLiarsSolovay (a0 : Int) (w : World) (w0 : (Lit.int .i64 a0).wf = true) :
    Calls Try.prog 11 #[.int .i64 a0] w fun e w' => e = .returned (.bool true) ∧ Below w.heap.size w w' := by
  have b0 := wf64 w0
  clear w0
  by_cases hin : 3 ≤ a0 ∧ a0 ≤ 500 ∧ a0 % 2 = 1
  · obtain ⟨h3, hn, ho⟩ := hin
    have HO := Lib.hid ho
    have z : (a0 % 2 == 0) = false := by simp; omega
    obtain ⟨f1, f2⟩ := sol_facts h3 hn ho
    have F1 := Lib.hid f1
    have F2 := Lib.hid f2
    have h0 : eulN a0 0 = false := ((li_facts 0 a0 h3 ho).2.2.2.2.2 (Int.dvd_zero a0)).2
    have H0 := Lib.hid h0
    clear f1 f2 ho h0
    go_enter Try.func11, Try.ntmps11
    go_wp2_with fail
    go_loop [5, 6] (fun m a => ∃ (A M' : Nat), a = .int .i64 A ∧ m = .int .i64 M' ∧ 1 ≤ A ∧ (A : Int) ≤ a0 ∧ Hid (M' = M.cnt (eulN a0) A)) (fun _ a => (a0 - intOf a).toNat)
    case atStart => exact ⟨1, 0, rfl, rfl, by omega, by omega, by show (0 : Nat) = 0 + (eulN a0 0).toNat; rw [H0.out]; rfl⟩
    case round =>
      obtain ⟨A, M', rfl, rfl, a1, a2, HM⟩ := hrel
      have ml : M' ≤ A := by rw [HM.out]; exact cnt_lim a0 A
      by_cases hlt : (A : Int) < a0
      · have hfar : farB (A : Int) = false := farB_no (by omega) (by omega)
        have HS := Lib.hid (cnt_step a0 A)
        by_cases he : eulB A a0 = true
        · go_wp2_with (go_at_call 27; refine (liars_Euler _ _ _ hfar h3 (by omega) HO.out).mono ?_; rintro e w' ⟨rfl, rfl⟩)
          go_round
          case rel => exact ⟨A + 1, M' + 1, by go_num, by go_num, by omega, by omega, by have h := HS.out; rw [if_pos he, ← HM.out] at h; show M' + 1 = _; omega⟩
          case measure => simp [intOf]; omega
        · have he' : eulB A a0 = false := by simpa using he
          clear he
          go_wp2_with (go_at_call 27; refine (liars_Euler _ _ _ hfar h3 (by omega) HO.out).mono ?_; rintro e w' ⟨rfl, rfl⟩)
          go_round
          case rel => exact ⟨A + 1, M', by go_num, rfl, by omega, by omega, by have h := HS.out; rw [if_neg (by rw [he']; decide), ← HM.out] at h; show M' = _; omega⟩
          case measure => simp [intOf]; omega
      · have hA : A = a0.toNat := by omega
        have G1 := F1.out
        have G2 := F2.out
        rw [← hA, ← HM.out] at G1 G2
        obtain ⟨p, hp⟩ : ∃ p, p = M.phi A := ⟨_, rfl⟩
        have pl : p ≤ A := by rw [hp]; exact M.phi_le A
        rw [← hp] at G1 G2
        have HP : Hid (M.phi a0.toNat = p) := by show _ = _; rw [← hA, hp]
        clear hA hp
        by_cases hpr : prB a0 = true
        · have e1 := G1 hpr
          have e2 : ((M' : Int) == (p : Int)) = true := by simp [e1]
          clear G1 G2 e1
          go_wp2_with fail
          refine (primes_Phi _ _ (by omega) (by omega)).mono ?_
          rintro e w1 ⟨rfl, hb1⟩
          rw [HP.out]
          go_wp2_with (go_at_call 17; refine (ref_Is _ _ (by omega)).mono ?_; rintro e w' ⟨rfl, rfl⟩)
          go_ret
          exact ⟨rfl, hb1⟩
        · have hpr' : prB a0 = false := by simpa using hpr
          obtain ⟨e1, e2⟩ := G2 hpr'
          have e3 : 2 * (M' : Int) ≤ (p : Int) := by omega
          clear G1 G2 hpr
          go_wp2_with fail
          refine (primes_Phi _ _ (by omega) (by omega)).mono ?_
          rintro e w1 ⟨rfl, hb1⟩
          rw [HP.out]
          go_wp2_with (go_at_call 17; refine (ref_Is _ _ (by omega)).mono ?_; rintro e w' ⟨rfl, rfl⟩)
          go_ret
          exact ⟨rfl, hb1⟩
  · have hfar : farB 1 = false := rfl
    by_cases h3 : a0 < 3
    · have H0 : askOut 1 a0 := .inr (.inl h3)
      clear hin
      go_enter Try.func11, Try.ntmps11
      go_wp2_with (go_at_call 27; refine (liars_Euler_no _ _ _ H0).mono ?_; rintro e w' ⟨rfl, rfl⟩)
      go_ret
      exact ⟨rfl, Below.refl _ _⟩
    · by_cases hm : 1048576 < a0
      · have H0 : askOut 1 a0 := .inr (.inr (.inl hm))
        clear hin
        go_enter Try.func11, Try.ntmps11
        go_wp2_with (go_at_call 27; refine (liars_Euler_no _ _ _ H0).mono ?_; rintro e w' ⟨rfl, rfl⟩)
        go_ret
        exact ⟨rfl, Below.refl _ _⟩
      · by_cases ho : a0 % 2 = 0
        · have H0 : askOut 1 a0 := .inr (.inr (.inr ho))
          have z : (a0 % 2 == 0) = true := by simp [ho]
          have z1 : (a0 % 2 == 1) = false := by simp [ho]
          clear hin ho
          by_cases h5 : 500 < a0
          all_goals
            go_enter Try.func11, Try.ntmps11
            go_wp2_with (go_at_call 27; refine (liars_Euler_no _ _ _ H0).mono ?_; rintro e w' ⟨rfl, rfl⟩)
            go_ret
            exact ⟨rfl, Below.refl _ _⟩
        · have ho' : a0 % 2 = 1 := by omega
          have HO := Lib.hid ho'
          have z : (a0 % 2 == 0) = false := by simp [ho]
          have z1 : (a0 % 2 == 1) = true := by simp [ho']
          have h5 : 500 < a0 := by omega
          have h6 : a0 ≤ 1048576 := by omega
          have h7 : 3 ≤ a0 := by omega
          clear hin ho ho' hm h3
          go_enter Try.func11, Try.ntmps11
          go_wp2_with (go_at_call 27; refine (liars_Euler _ _ _ hfar h7 h6 HO.out).mono ?_; rintro e w' ⟨rfl, rfl⟩)
          go_ret
          exact ⟨rfl, Below.refl _ _⟩
end Go.Proofs.Ytlabkedkamdomaa
