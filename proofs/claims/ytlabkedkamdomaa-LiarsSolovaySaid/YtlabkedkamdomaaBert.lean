/- Chebyshev's theorem for all numbers up to 2^19, by a chain of primes; Wilson's relation as the loop has it. -/
import Derived.Test.YtlabkedkamdomaaNum3
namespace Go.Proofs.Ytlabkedkamdomaa.M
set_option linter.unusedVariables false
def noD : Nat → Nat → Nat → Bool
  | 0, d, n => decide (n < d * d)
  | f + 1, d, n => decide (n < d * d) || (n % d != 0 && noD f (d + 1) n)
theorem noD_spec : ∀ f d n : Nat, noD f d n = true → ∀ e, d ≤ e → e * e ≤ n → ¬ e ∣ n
  | 0, d, n, h, e, he, hee, _ => by
    have h' : n < d * d := by simpa [noD] using h
    have := Nat.mul_le_mul he he
    omega
  | f + 1, d, n, h, e, he, hee, hd => by
    unfold noD at h
    simp only [Bool.or_eq_true, Bool.and_eq_true, decide_eq_true_eq, bne_iff_ne] at h
    rcases h with h | ⟨h1, h2⟩
    · have := Nat.mul_le_mul he he
      omega
    · by_cases hde : e = d
      · subst hde; exact h1 (Nat.mod_eq_zero_of_dvd hd)
      · exact noD_spec f (d + 1) n h2 e (by omega) hee hd
def chain : List Nat := [2, 3, 5, 7, 13, 23, 43, 83, 163, 317, 631, 1259, 2503, 5003, 9973, 19937, 39869, 79699, 159389, 318751, 637499]
theorem chain_dec : ∀ q ∈ chain, 2 ≤ q ∧ noD 800 2 q = true := by decide +kernel
theorem chain_prime {q : Nat} (h : q ∈ chain) : Pr q := by
  obtain ⟨h1, h2⟩ := chain_dec q h
  rw [Pr.iff_trial]
  exact ⟨h1, noD_spec _ _ _ h2⟩
theorem bertrand (n : Nat) (h1 : 1 ≤ n) (h2 : n ≤ 524288) : ∃ q, Pr q ∧ n < q ∧ q ≤ 2 * n := by
  by_cases c2 : n < 2
  · exact ⟨2, chain_prime (by decide), c2, by omega⟩
  by_cases c3 : n < 3
  · exact ⟨3, chain_prime (by decide), c3, by omega⟩
  by_cases c5 : n < 5
  · exact ⟨5, chain_prime (by decide), c5, by omega⟩
  by_cases c7 : n < 7
  · exact ⟨7, chain_prime (by decide), c7, by omega⟩
  by_cases c13 : n < 13
  · exact ⟨13, chain_prime (by decide), c13, by omega⟩
  by_cases c23 : n < 23
  · exact ⟨23, chain_prime (by decide), c23, by omega⟩
  by_cases c43 : n < 43
  · exact ⟨43, chain_prime (by decide), c43, by omega⟩
  by_cases c83 : n < 83
  · exact ⟨83, chain_prime (by decide), c83, by omega⟩
  by_cases c163 : n < 163
  · exact ⟨163, chain_prime (by decide), c163, by omega⟩
  by_cases c317 : n < 317
  · exact ⟨317, chain_prime (by decide), c317, by omega⟩
  by_cases c631 : n < 631
  · exact ⟨631, chain_prime (by decide), c631, by omega⟩
  by_cases c1259 : n < 1259
  · exact ⟨1259, chain_prime (by decide), c1259, by omega⟩
  by_cases c2503 : n < 2503
  · exact ⟨2503, chain_prime (by decide), c2503, by omega⟩
  by_cases c5003 : n < 5003
  · exact ⟨5003, chain_prime (by decide), c5003, by omega⟩
  by_cases c9973 : n < 9973
  · exact ⟨9973, chain_prime (by decide), c9973, by omega⟩
  by_cases c19937 : n < 19937
  · exact ⟨19937, chain_prime (by decide), c19937, by omega⟩
  by_cases c39869 : n < 39869
  · exact ⟨39869, chain_prime (by decide), c39869, by omega⟩
  by_cases c79699 : n < 79699
  · exact ⟨79699, chain_prime (by decide), c79699, by omega⟩
  by_cases c159389 : n < 159389
  · exact ⟨159389, chain_prime (by decide), c159389, by omega⟩
  by_cases c318751 : n < 318751
  · exact ⟨318751, chain_prime (by decide), c318751, by omega⟩
  exact ⟨637499, chain_prime (by decide), by omega, by omega⟩

theorem prodL_snoc (l : List Nat) (a : Nat) : prodL (l ++ [a]) = prodL l * a := by
  rw [prodL_perm List.perm_append_comm]
  show a * prodL l = prodL l * a
  exact Nat.mul_comm _ _
/-- in the midst of the product -/
def WRel (n P X : Int) : Prop := 2 ≤ X ∧ X ≤ n ∧ 0 ≤ P ∧ P < n ∧ P = ((prodL (List.range' 2 (X.toNat - 2)) % n.toNat : Nat) : Int)
theorem WRel.init {n : Int} (h : 2 ≤ n) : WRel n 1 2 := by
  refine ⟨by omega, h, by omega, by omega, ?_⟩
  show (1 : Int) = ((1 % n.toNat : Nat) : Int)
  rw [Nat.mod_eq_of_lt (by omega)]; rfl
theorem WRel.step {n P X : Int} (h : WRel n P X) (hlt : X < n) : WRel n ((P * X).tmod n) (X + 1) := by
  obtain ⟨h1, h2, h3, h4, h5⟩ := h
  have hp : 0 ≤ P * X := Int.mul_nonneg h3 (by omega)
  rw [Int.tmod_eq_emod_of_nonneg hp]
  refine ⟨by omega, by omega, Int.emod_nonneg _ (by omega), Int.emod_lt_of_pos _ (by omega), ?_⟩
  obtain ⟨k, rfl⟩ : ∃ k : Nat, X = (k : Int) + 2 := ⟨(X - 2).toNat, by omega⟩
  obtain ⟨m, rfl⟩ := Int.eq_ofNat_of_zero_le (show 0 ≤ n by omega)
  have e1 : ((k : Int) + 2).toNat - 2 = k := by omega
  have e2 : ((k : Int) + 2 + 1).toNat - 2 = k + 1 := by omega
  rw [e1, Int.toNat_natCast] at h5
  rw [e2, Int.toNat_natCast, List.range'_concat, prodL_snoc, h5]
  have e3 : ((k : Int) + 2) = ((2 + 1 * k : Nat) : Int) := by omega
  rw [e3, ← Int.natCast_mul, ← Int.natCast_emod, Nat.mod_mul_mod]
theorem WRel.fin {n P : Int} (h : WRel n P n) : Pr n.toNat ↔ P = n - 1 := by
  obtain ⟨h1, h2, h3, h4, h5⟩ := h
  obtain ⟨m, rfl⟩ := Int.eq_ofNat_of_zero_le (show 0 ≤ n by omega)
  rw [Int.toNat_natCast] at h5 ⊢
  constructor
  · intro hp
    by_cases h3 : 3 ≤ m
    · rw [wilson hp h3] at h5; omega
    · have : m = 2 := by omega
      subst this
      simpa using h5
  · intro he
    apply Classical.byContradiction
    intro hp
    exact wilson_not (by omega) hp (by omega)
end Go.Proofs.Ytlabkedkamdomaa.M
