/- Plain: roots of squares by Tonelli and Shanks. -/
import Derived.Test.YtlabkedkamdomaaPrimM
import Derived.Test.YtlabkedkamdomaaNum3
namespace Go.Proofs.Ytlabkedkamdomaa
set_option linter.unusedVariables false
set_option linter.unusedSimpArgs false
/-- what holds between rounds -/
structure Ton (a p : Int) (S : Nat) (X T C : Int) : Prop where
  x : X * X % p = a * T % p
  t : T ^ 2 ^ (S - 1) % p = 1 % p
  c : C ^ 2 ^ (S - 1) % p = -1 % p
theorem pow_two_succ (y : Int) (i : Nat) : y ^ 2 ^ (i + 1) = (y ^ 2 ^ i) ^ 2 := by rw [Nat.pow_succ, Int.pow_mul]
theorem sq_eq (y : Int) : y ^ 2 = y * y := by rw [Int.pow_succ, Int.pow_succ, Int.pow_zero, Int.one_mul]
theorem mulmod {a b c d p : Int} (h1 : a % p = b % p) (h2 : c % p = d % p) : a * c % p = b * d % p := by
  rw [Int.mul_emod, h1, h2, ← Int.mul_emod]
theorem ton_minus {N : Nat} (hp : M.Pr N) {T : Int} {i : Nat} (hi : 1 ≤ i) (h1 : T ^ 2 ^ i % (N : Int) = 1 % N) (h2 : T ^ 2 ^ (i - 1) % (N : Int) ≠ 1 % N) : T ^ 2 ^ (i - 1) % (N : Int) = -1 % N := by
  obtain ⟨j, rfl⟩ : ∃ j, i = j + 1 := ⟨i - 1, by omega⟩
  rw [Nat.add_sub_cancel] at h2 ⊢
  rw [pow_two_succ, sq_eq] at h1
  obtain ⟨y, hy⟩ : ∃ y, T ^ 2 ^ j = y := ⟨_, rfl⟩
  rw [hy] at h1 h2 ⊢
  have hd : (N : Int) ∣ (y - 1) * (y + 1) := by
    have := Int.dvd_of_emod_eq_zero (Int.emod_eq_emod_iff_emod_sub_eq_zero.1 h1)
    rwa [show y * y - 1 = (y - 1) * (y + 1) by grind] at this
  rcases hp.dvd_mul_int hd with h | h
  · exact absurd (Int.emod_eq_emod_iff_emod_sub_eq_zero.2 (Int.emod_eq_zero_of_dvd h)) h2
  · refine Int.emod_eq_emod_iff_emod_sub_eq_zero.2 (Int.emod_eq_zero_of_dvd ?_)
    rwa [show y - -1 = y + 1 by omega]
theorem Ton.next {N : Nat} (hp : M.Pr N) {a : Int} {S : Nat} {X T C : Int} (h : Ton a N S X T C) {i : Nat} (hi : 1 ≤ i) (hS : i < S) (h1 : T ^ 2 ^ i % (N : Int) = 1 % N) (h2 : T ^ 2 ^ (i - 1) % (N : Int) ≠ 1 % N)
    {B : Int} (hB : B % (N : Int) = C ^ 2 ^ (S - i - 1) % N) : Ton a N i (X * B % N) (T * (B * B % N) % N) (B * B % N) := by
  have hm := ton_minus hp hi h1 h2
  have hc : (B * B % (N : Int)) ^ 2 ^ (i - 1) % (N : Int) = -1 % N := by
    rw [M.emod_pow, ← sq_eq, ← Int.pow_mul, ← Nat.pow_succ', Nat.succ_eq_add_one, Nat.sub_add_cancel hi, M.pow_emod_congr hB, ← Int.pow_mul, ← Nat.pow_add, show S - i - 1 + i = S - 1 by omega]
    exact h.c
  refine ⟨?_, ?_, hc⟩
  · have e : X * B * (X * B) = X * X * (B * B) := by grind
    rw [← Int.mul_emod, e, Int.mul_emod a, Int.emod_emod, ← Int.mul_emod a]
    rw [mulmod h.x (show B * B % (N : Int) = (B * B % N) % N from (Int.emod_emod _ _).symm), Int.mul_assoc]
  · rw [M.emod_pow, Int.mul_pow, mulmod hm hc]
    rfl
theorem ton_init {N : Nat} (hp : M.Pr N) (ho : N % 2 = 1) {a z : Int} {S Q : Nat} (hS : 1 ≤ S) (hQ : 2 ^ S * Q = N - 1) (hq : Q % 2 = 1) (ha : M.jac a N = 1) (hz : M.jac z N = -1) :
    Ton a N S (a ^ ((Q + 1) / 2) % N) (a ^ Q % N) (z ^ Q % N) := by
  have half : Q * 2 ^ (S - 1) = (N - 1) / 2 := by
    obtain ⟨s, rfl⟩ : ∃ s, S = s + 1 := ⟨S - 1, by omega⟩
    rw [Nat.pow_succ] at hQ
    rw [Nat.add_sub_cancel]
    have : 2 ^ s * 2 * Q = 2 * (Q * 2 ^ s) := by ac_rfl
    omega
  have crit : ∀ y : Int, (y ^ Q % (N : Int)) ^ 2 ^ (S - 1) % (N : Int) = M.jac y N % N := fun y => by
    rw [M.emod_pow, ← Int.pow_mul, half]
    exact Int.emod_eq_emod_iff_emod_sub_eq_zero.2 (Int.emod_eq_zero_of_dvd (M.euler_crit hp ho y))
  refine ⟨?_, ?_, ?_⟩
  · rw [← Int.mul_emod, ← Int.pow_add, Int.mul_emod a, Int.emod_emod, ← Int.mul_emod a, Int.mul_comm a, ← Int.pow_succ]
    congr 2; omega
  · rw [crit, ha]
  · rw [crit, hz]
theorem nonres {N : Nat} (hp : M.Pr N) (ho : N % 2 = 1) : ∃ r : Int, 2 ≤ r ∧ r < N ∧ M.jac r N = -1 := by
  obtain ⟨g, g1, g2, g3⟩ := M.prim_root hp
  have h2 := hp.1
  have hj : M.jac g N = -1 := by
    have hc := M.euler_crit hp ho g
    rcases M.jac_cases g N with h | h | h
    · exfalso
      rw [h, Int.sub_zero] at hc
      have h3 : (N : Int) ∣ g ^ (N - 1) := Int.dvd_trans hc ⟨g ^ ((N - 1) / 2), by rw [← Int.pow_add]; congr 1; omega⟩
      have h4 : g ^ (N - 1) % (N : Int) = 1 % N := g3.2.1
      rw [Int.emod_eq_zero_of_dvd h3, Int.emod_eq_of_lt (by omega) (by omega)] at h4
      omega
    · exfalso
      rw [h] at hc
      have h5 := Nat.le_of_dvd (by omega) (g3.2.2 _ (M.one_of_dvd hc))
      omega
    · exact h
  refine ⟨g, ?_, g2, hj⟩
  rcases Decidable.em (g = 1) with h | h
  · subst h; rw [M.jac_one] at hj; omega
  · omega
/-- 2^S is at most the prime -/
theorem two_small {S Q N : Nat} (h : 2 ^ S * Q = N - 1) (hN : 3 ≤ N) (hN2 : N ≤ 1048576) : S ≤ 20 ∧ 1 ≤ Q ∧ Q ≤ 1048576 := by
  have hQ : 1 ≤ Q := by
    rcases Nat.eq_zero_or_pos Q with e | e
    · subst e; omega
    · exact e
  have h1 : 2 ^ S ≤ N - 1 := by rw [← h]; exact Nat.le_mul_of_pos_right _ hQ
  have h2 : Q ≤ N - 1 := by rw [← h]; exact Nat.le_mul_of_pos_left _ (Nat.pow_pos (by omega))
  refine ⟨?_, hQ, by omega⟩
  rcases Nat.lt_or_ge 20 S with h3 | h3
  · have := Nat.pow_le_pow_right (show 0 < 2 by omega) h3
    omega
  · exact h3
/-- the roots of a square -/
theorem two_roots {N : Nat} (hp : M.Pr N) {r x : Int} (r1 : 0 ≤ r) (r2 : r < N) (x1 : 0 ≤ x) (x2 : x < N) (h : x * x % (N : Int) = r * r % N) : x = r ∨ x = N - r := by
  have hd : (N : Int) ∣ (x - r) * (x + r) := by
    have := Int.dvd_of_emod_eq_zero (Int.emod_eq_emod_iff_emod_sub_eq_zero.1 h)
    rwa [show x * x - r * r = (x - r) * (x + r) by grind] at this
  rcases hp.dvd_mul_int hd with ⟨c, hc⟩ | ⟨c, hc⟩
  · left
    have : c = 0 := by
      rcases Int.lt_trichotomy c 0 with h2 | h2 | h2
      · have := Int.mul_le_mul_of_nonneg_left (show c ≤ -1 by omega) (show (0 : Int) ≤ N by omega); omega
      · exact h2
      · have := Int.mul_le_mul_of_nonneg_left (show 1 ≤ c by omega) (show (0 : Int) ≤ N by omega); omega
    subst this; omega
  · rcases Int.lt_trichotomy c 1 with h2 | h2 | h2
    · left
      have := Int.mul_le_mul_of_nonneg_left (show c ≤ 0 by omega) (show (0 : Int) ≤ N by omega); omega
    · subst h2; right; omega
    · have := Int.mul_le_mul_of_nonneg_left (show 2 ≤ c by omega) (show (0 : Int) ≤ N by omega); omega
end Go.Proofs.Ytlabkedkamdomaa
