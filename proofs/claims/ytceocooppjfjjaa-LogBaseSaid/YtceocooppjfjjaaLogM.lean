/- Plain: discrete logarithms. -/
import Derived.Test.YtceocooppjfjjaaOrdM
import Derived.Test.YtceocooppjfjjaaNum3
import Derived.Test.YtceocooppjfjjaaRefIs
import Derived.Maps.OwnSet
import Derived.Maps.OwnOps
namespace Go.Proofs.Ytceocooppjfjjaa
open Go.Maps
set_option linter.unusedVariables false
set_option linter.unusedSimpArgs false
/-- the least exponent -/
def LeastE (g a p : Int) (e : Nat) : Prop := g ^ e % p = a % p ∧ ∀ e', e' < e → g ^ e' % p ≠ a % p
/-- what the map of small steps holds -/
structure Logs (f : Nat → Int) (D : DataW Unit) (J : Nat) : Prop where
  yes : ∀ x : Int, Maps.has D (.int .i64 x) = true → ∃ j : Nat, j < J ∧ f j = x ∧ (∀ z, D.atKey (.int .i64 x) z = .lit (.int .i64 j)) ∧ ∀ j', j < j' → j' < J → f j' ≠ x
  no : ∀ x : Int, Maps.has D (.int .i64 x) = false → ∀ j, j < J → f j ≠ x
theorem Logs.nil (f : Nat → Int) : Logs f (.map []) 0 := ⟨fun x h => by simp [has_eq] at h, fun x _ j hj => absurd hj (Nat.not_lt_zero _)⟩
theorem Logs.put {f : Nat → Int} {D : DataW Unit} {J : Nat} (h : Logs f D J) (ht : Tidy D) : Logs f (D.put (.int .i64 (f J)) (.lit (.int .i64 J))) (J + 1) := by
  have hk : WideAt.IsKeyLit (.int .i64 (f J)) := by simp [WideAt.IsKeyLit]
  constructor
  · intro x hx
    by_cases e : x = f J
    · subst e
      exact ⟨J, by omega, rfl, fun z => atKey_put_same ht.isMap hk _ z, fun j' h1 h2 => by omega⟩
    · have hne : (Lit.int .i64 x) ≠ (.int .i64 (f J)) := fun e2 => e (by injection e2)
      rw [has_put_other hne] at hx
      obtain ⟨j, h1, h2, h3, h4⟩ := h.yes x hx
      refine ⟨j, by omega, h2, fun z => by rw [atKey_put_other hne]; exact h3 z, fun j' k1 k2 => ?_⟩
      by_cases e2 : j' = J
      · subst e2; exact fun e3 => e e3.symm
      · exact h4 j' k1 (by omega)
  · intro x hx j hj
    by_cases e : x = f J
    · subst e
      rw [has_put_same ht.isMap hk] at hx
      cases hx
    · have hne : (Lit.int .i64 x) ≠ (.int .i64 (f J)) := fun e2 => e (by injection e2)
      rw [has_put_other hne] at hx
      by_cases e2 : j = J
      · subst e2; exact fun e3 => e e3.symm
      · exact h.no x hx j (by omega)
theorem pow_cancel {p : Nat} (hp : M.Pr p) {g a : Int} (hg : ¬ (p : Int) ∣ g) {m j : Nat} (hjm : j ≤ m) : g ^ m % p = a * g ^ j % p ↔ g ^ (m - j) % p = a % p := by
  have hj : ¬ (p : Int) ∣ g ^ j := fun h => by
    induction j with
    | zero =>
      have := hp.1
      have h1 : (p : Int) ∣ 1 := by simpa using h
      have := Int.le_of_dvd (by decide) h1; omega
    | succ j ih =>
      rw [Int.pow_succ] at h
      rcases hp.dvd_mul_int h with h | h
      · exact ih (by omega) h
      · exact hg h
  have e : g ^ m = g ^ (m - j) * g ^ j := by rw [← Int.pow_add, Nat.sub_add_cancel hjm]
  rw [e, Int.emod_eq_emod_iff_emod_sub_eq_zero, Int.emod_eq_emod_iff_emod_sub_eq_zero, ← Int.sub_mul]
  constructor
  · intro h
    rcases hp.dvd_mul_int (Int.dvd_of_emod_eq_zero h) with h | h
    · exact Int.emod_eq_zero_of_dvd h
    · exact absurd h hj
  · intro h
    exact Int.emod_eq_zero_of_dvd (Int.dvd_trans (Int.dvd_of_emod_eq_zero h) (Int.dvd_mul_right _ _))
/-- an exponent as a large step less a small one -/
theorem step_of (S e : Nat) (hS : 1 ≤ S) (he : 1 ≤ e) : ∃ i j, 1 ≤ i ∧ j < S ∧ e + j = i * S ∧ j ≤ i * S := by
  refine ⟨(e + S - 1) / S, (e + S - 1) / S * S - e, ?_, ?_, ?_, by omega⟩
  · exact (Nat.le_div_iff_mul_le (by omega)).2 (by omega)
  · have := Nat.div_add_mod (e + S - 1) S
    have h2 := Nat.mod_lt (e + S - 1) (show 0 < S by omega)
    rw [Nat.mul_comm] at this
    omega
  · have := Nat.div_add_mod (e + S - 1) S
    have h2 := Nat.mod_lt (e + S - 1) (show 0 < S by omega)
    rw [Nat.mul_comm] at this
    omega
/-- no large step up to i was met -/
def NoStep (g a p : Int) (S i : Nat) : Prop := ∀ i' j : Nat, 1 ≤ i' → i' ≤ i → j < S → g ^ (i' * S) % p ≠ a * g ^ j % p
theorem NoStep.none {p : Nat} (hp : M.Pr p) {g a : Int} (hg : ¬ (p : Int) ∣ g) {S i : Nat} (hS : 1 ≤ S) (ha : a % p ≠ 1 % p) (h : NoStep g a p S i) (e : Nat) (he : e ≤ i * S) : g ^ e % p ≠ a % p := fun heq => by
  rcases Nat.eq_zero_or_pos e with rfl | hpos
  · exact ha (by simpa using heq.symm)
  · obtain ⟨i', j, h1, h2, h3, h4⟩ := step_of S e hS hpos
    have hi : i' ≤ i := by
      rcases Nat.lt_or_ge i i' with h | h
      · have := Nat.mul_le_mul_right S (show i + 1 ≤ i' by omega)
        rw [Nat.add_mul, Nat.one_mul] at this
        omega
      · exact h
    refine h i' j h1 hi h2 ((pow_cancel hp hg h4).2 ?_)
    rw [show i' * S - j = e by omega]; exact heq
theorem found_least {p : Nat} (hp : M.Pr p) {g a : Int} (hg : ¬ (p : Int) ∣ g) {S i j : Nat} (hS : 1 ≤ S) (hi : 1 ≤ i) (hj : j < S) (ha : a % p ≠ 1 % p) (h : NoStep g a p S (i - 1))
    (hm : g ^ (i * S) % p = a * g ^ j % p) (hl : ∀ j', j < j' → j' < S → a * g ^ j' % p ≠ g ^ (i * S) % p) : LeastE g a p (i * S - j) := by
  have hjS : j ≤ i * S := Nat.le_trans (Nat.le_of_lt hj) (Nat.le_mul_of_pos_left S hi)
  refine ⟨(pow_cancel hp hg hjS).1 hm, fun e' he' heq => ?_⟩
  rcases Nat.eq_zero_or_pos e' with rfl | hpos
  · exact ha (by simpa using heq.symm)
  · by_cases hle : e' ≤ (i - 1) * S
    · exact h.none hp hg hS ha e' hle heq
    · have e1 : i * S = (i - 1) * S + S := by
        conv => lhs; rw [show i = (i - 1) + 1 by omega, Nat.add_mul, Nat.one_mul]
      refine hl (i * S - e') (by omega) (by omega) ?_
      have := (pow_cancel (a := a) hp hg (show i * S - e' ≤ i * S by omega)).2 (by rw [show i * S - (i * S - e') = e' by omega]; exact heq)
      exact this.symm
end Go.Proofs.Ytceocooppjfjjaa
