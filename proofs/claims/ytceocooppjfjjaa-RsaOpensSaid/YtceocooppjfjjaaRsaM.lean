/- Plain: RSA. -/
import Derived.Test.YtceocooppjfjjaaCrtM
import Derived.Test.YtceocooppjfjjaaRefIs
import Derived.Test.YtceocooppjfjjaaNum3
namespace Go.Proofs.Ytceocooppjfjjaa
set_option linter.unusedVariables false
set_option linter.unusedSimpArgs false
theorem fermat_more {p : Nat} (hp : M.Pr p) (x : Int) (s : Nat) : x ^ (1 + (p - 1) * s) % p = x % p := by
  by_cases hd : (p : Int) ∣ x
  · have h1 : (p : Int) ∣ x ^ (1 + (p - 1) * s) := by rw [Int.pow_add, Int.pow_one]; exact Int.dvd_trans hd (Int.dvd_mul_right _ _)
    rw [Int.emod_eq_zero_of_dvd hd, Int.emod_eq_zero_of_dvd h1]
  · have h := M.fermat_int1 hp hd
    have h2 : x ^ ((p - 1) * s) % p = 1 % p := by
      rw [Int.pow_mul]
      have : (x ^ (p - 1)) % p = 1 % p := by rw [h]; have := hp.1; rw [Int.emod_eq_of_lt (by omega) (by omega)]
      rw [M.pow_emod_congr this s, Int.one_pow]
    rw [Int.pow_add, Int.pow_one, Int.mul_emod, h2, ← Int.mul_emod, Int.mul_one]
theorem pow_mod_less {p : Nat} (hp : M.Pr p) (y : Int) (D : Nat) : y ^ (D % (p - 1) + (p - 1)) % p = y ^ D % p ∨ (p : Int) ∣ y := by
  by_cases hd : (p : Int) ∣ y
  · exact .inr hd
  · left
    have h := M.fermat_int1 hp hd
    have hone : (y ^ (p - 1)) % p = 1 % p := by rw [h]; have := hp.1; rw [Int.emod_eq_of_lt (by omega) (by omega)]
    have e1 : y ^ (D % (p - 1) + (p - 1)) % p = y ^ (D % (p - 1)) % p := by
      rw [Int.pow_add, Int.mul_emod, hone, ← Int.mul_emod, Int.mul_one]
    rw [e1]
    conv => rhs; rw [← Nat.div_add_mod D (p - 1), Int.pow_add, Int.pow_mul, Int.mul_emod, M.pow_emod_congr hone, Int.one_pow, ← Int.mul_emod, Int.one_mul]
/-- by parts: the power by what is left of the exponent -/
theorem parts_pow {p : Nat} (hp : M.Pr p) (y : Int) {D : Nat} (hD : 1 ≤ D) : (p : Int) ∣ y ^ (D % (p - 1) + (p - 1)) % p - y ^ D := by
  have hs : (p : Int) ∣ y ^ D % p - y ^ D := by
    have := Int.dvd_self_sub_emod (x := y ^ D) (m := (p : Int))
    have h2 := (Int.dvd_neg).2 this
    rwa [show -(y ^ D - y ^ D % (p : Int)) = y ^ D % (p : Int) - y ^ D by omega] at h2
  rcases pow_mod_less hp y D with h | h
  · rw [h]; exact hs
  · have p1 := hp.1
    have d1 : (p : Int) ∣ y ^ D := by
      obtain ⟨k, rfl⟩ : ∃ k, D = k + 1 := ⟨D - 1, by omega⟩
      rw [Int.pow_succ]; exact Int.dvd_trans h (Int.dvd_mul_left _ _)
    have d2 : (p : Int) ∣ y ^ (D % (p - 1) + (p - 1)) := by
      obtain ⟨k, hk⟩ : ∃ k, D % (p - 1) + (p - 1) = k + 1 := ⟨D % (p - 1) + (p - 1) - 1, by omega⟩
      rw [hk, Int.pow_succ]; exact Int.dvd_trans h (Int.dvd_mul_left _ _)
    rw [Int.emod_eq_zero_of_dvd d2]
    have := (Int.dvd_neg).2 d1
    rwa [← Int.zero_sub] at this
theorem two_dvd {p q : Nat} (hp : M.Pr p) (hq : M.Pr q) (hne : p ≠ q) {c : Int} (h1 : (p : Int) ∣ c) (h2 : (q : Int) ∣ c) : ((p * q : Nat) : Int) ∣ c := by
  have hco : Nat.Coprime p q := hp.cop fun hd => hne (hp.eq_of_dvd hq hd)
  have := Nat.Coprime.mul_dvd_of_dvd_of_dvd hco (Int.ofNat_dvd_left.1 h1) (Int.ofNat_dvd_left.1 h2)
  exact Int.ofNat_dvd_left.2 this
/-- what was locked is opened -/
theorem rsa_law {p q : Nat} (hp : M.Pr p) (hq : M.Pr q) (hne : p ≠ q) (x : Int) {E D : Nat} {L : Nat} (h1 : (p - 1) ∣ L) (h2 : (q - 1) ∣ L) (s : Nat) (hED : E * D = 1 + L * s) : x ^ (E * D) % ((p * q : Nat) : Int) = x % ((p * q : Nat) : Int) := by
  apply Int.emod_eq_emod_iff_emod_sub_eq_zero.2
  apply Int.emod_eq_zero_of_dvd
  refine two_dvd hp hq hne ?_ ?_
  · obtain ⟨t, rfl⟩ := h1
    have := fermat_more hp x (t * s)
    rw [hED, Nat.mul_assoc]
    exact Int.dvd_of_emod_eq_zero (Int.emod_eq_emod_iff_emod_sub_eq_zero.1 this)
  · obtain ⟨t, rfl⟩ := h2
    have := fermat_more hq x (t * s)
    rw [hED, Nat.mul_assoc]
    exact Int.dvd_of_emod_eq_zero (Int.emod_eq_emod_iff_emod_sub_eq_zero.1 this)
/-- the key that Make makes -/
theorem key_exp {E d m : Int} (hE : 1 ≤ E) (hm : 2 ≤ m) (h0 : 0 ≤ d) (h1 : d < m) (h : m ∣ d * E - 1) : 1 ≤ d ∧ ∃ s : Nat, E.toNat * d.toNat = 1 + m.toNat * s := by
  obtain ⟨t, ht⟩ := h
  have hd : 1 ≤ d := by
    rcases Int.lt_or_le d 1 with h | h
    · obtain rfl : d = 0 := by omega
      exfalso
      have : m * t = -1 := by omega
      have := Int.le_of_dvd (by decide) (show m ∣ 1 from ⟨-t, by rw [Int.mul_neg]; omega⟩)
      omega
    · exact h
  have p1 : 1 * 1 ≤ d * E := Int.mul_le_mul hd hE (by omega) (by omega)
  have t0 : 0 ≤ t := by
    rcases Int.lt_or_le t 0 with h | h
    · have := Int.mul_le_mul_of_nonneg_left (show t ≤ -1 by omega) (show 0 ≤ m by omega)
      omega
    · exact h
  refine ⟨hd, t.toNat, ?_⟩
  apply Int.ofNat.inj
  show ((E.toNat * d.toNat : Nat) : Int) = ((1 + m.toNat * t.toNat : Nat) : Int)
  rw [Int.natCast_mul, Int.natCast_add, Int.natCast_mul, Int.toNat_of_nonneg (by omega), Int.toNat_of_nonneg (by omega), Int.toNat_of_nonneg (by omega), Int.toNat_of_nonneg t0, Int.mul_comm E d]
  have : ((1 : Nat) : Int) = 1 := rfl
  omega
theorem pow_twice (x N : Int) (a b : Nat) : (x ^ a % N) ^ b % N = x ^ (a * b) % N := by
  rw [M.emod_pow, Int.pow_mul]
end Go.Proofs.Ytceocooppjfjjaa
