/- Plain number theory: of the three tests the strong one is the sharpest, Fermat's the weakest; a prime passes all. -/
import Derived.Test.YtnheboamjfahaaaNum5
import Derived.Test.YtnheboamjfahaaaNum3
namespace Go.Proofs.Ytnheboamjfahaaa.M
set_option linter.unusedVariables false
theorem jac_pow {a n : Int} (hn : 0 < n) (ho : n % 2 = 1) : ∀ k : Nat, jac (a ^ k) n = jac a n ^ k
  | 0 => by simp [jac_one]
  | k + 1 => by rw [Int.pow_succ, Int.pow_succ, jac_mul hn ho, jac_pow hn ho k]
theorem neg_pow_even (c : Nat) : (-1 : Int) ^ (2 * c) = 1 := by rw [Int.pow_mul, show (-1 : Int) ^ 2 = 1 from rfl, Int.one_pow]
theorem neg_pow_odd {d : Nat} (h : d % 2 = 1) : (-1 : Int) ^ d = -1 := by
  obtain ⟨c, rfl⟩ : ∃ c, d = 2 * c + 1 := ⟨d / 2, by omega⟩
  rw [Int.pow_succ, neg_pow_even]; rfl
theorem sign_pow_odd {j : Int} (hj : j = 0 ∨ j = 1 ∨ j = -1) {d : Nat} (h : d % 2 = 1) : j ^ d = j := by
  rcases hj with e | e | e <;> subst e
  · exact Int.zero_pow (by omega)
  · exact Int.one_pow
  · exact neg_pow_odd h
theorem neg_pow_cases (e : Nat) : (-1 : Int) ^ e = 1 ∨ (-1 : Int) ^ e = -1 := by
  by_cases h : e % 2 = 1
  · exact .inr (neg_pow_odd h)
  · obtain ⟨c, rfl⟩ : ∃ c, e = 2 * c := ⟨e / 2, by omega⟩
    exact .inl (neg_pow_even c)
theorem emod_of_dvd_sub {x y m : Int} (h : m ∣ x - y) : x % m = y % m := Int.emod_eq_emod_iff_emod_sub_eq_zero.2 (Int.emod_eq_zero_of_dvd h)
theorem dvd_sub_of_emod {x y m : Int} (h : x % m = y % m) : m ∣ x - y := Int.dvd_of_emod_eq_zero (Int.emod_eq_emod_iff_emod_sub_eq_zero.1 h)
/-- the prime case -/
theorem chain_prime' {a : Int} {i d p : Nat} (hd : d % 2 = 1) (hp : Pr p) (ho : p % 2 = 1) (h : a ^ (d * 2 ^ i) % p = (-1) % p) :
    ∃ e : Nat, p = 1 + 2 ^ (i + 1) * e ∧ jac a p = (-1) ^ e := by
  have h2 := hp.1
  have hnd : ¬ (p : Int) ∣ a := by
    intro hda
    have hpow : (p : Int) ∣ a ^ (d * 2 ^ i) := by
      have hk : 0 < d * 2 ^ i := Nat.mul_pos (by omega) (Nat.pow_pos (by omega))
      obtain ⟨k, hk'⟩ : ∃ k, d * 2 ^ i = k + 1 := ⟨d * 2 ^ i - 1, by omega⟩
      rw [hk', Int.pow_succ]
      exact Int.dvd_mul_of_dvd_right hda
    have h1 := dvd_sub_of_emod h
    have h3 : (p : Int) ∣ 1 := by
      have := Int.dvd_sub h1 hpow
      have e : a ^ (d * 2 ^ i) - -1 - a ^ (d * 2 ^ i) = 1 := by omega
      rwa [e] at this
    have := Int.le_of_dvd (by omega) h3
    omega
  obtain ⟨hs1, hs2⟩ := od_spec (m := p - 1) (by omega)
  have hf := fermat_int1 hp hnd
  have hle : i + 1 ≤ ev (p - 1) := by
    apply Classical.byContradiction
    intro hlt
    have e1 : d * 2 ^ i * od (p - 1) = (p - 1) * (d * 2 ^ (i - ev (p - 1))) := by
      have : 2 ^ i = 2 ^ (ev (p - 1)) * 2 ^ (i - ev (p - 1)) := by rw [← Nat.pow_add]; congr 1; omega
      conv => rhs; lhs; rw [← hs1]
      rw [this]
      ac_rfl
    have e2 : a ^ (d * 2 ^ i * od (p - 1)) % p = 1 % p := by
      rw [e1, Int.pow_mul]
      have := pow_emod_congr (m := (p : Int)) (a := a ^ (p - 1)) (b := 1) (by rw [hf, Int.emod_eq_of_lt (by omega) (by omega)]) (d * 2 ^ (i - ev (p - 1)))
      rw [this, Int.one_pow]
    have e3 : a ^ (d * 2 ^ i * od (p - 1)) % p = (-1) % p := by
      rw [Int.pow_mul]
      have := pow_emod_congr h (od (p - 1))
      rw [this, neg_pow_odd hs2]
    have h4 := dvd_sub_of_emod (e2.symm.trans e3)
    have := Int.le_of_dvd (by omega) h4
    omega
  obtain ⟨e, he⟩ : ∃ e, p - 1 = 2 ^ (i + 1) * e := ⟨od (p - 1) * 2 ^ (ev (p - 1) - (i + 1)), by
    conv => lhs; rw [← hs1]
    have : 2 ^ ev (p - 1) = 2 ^ (i + 1) * 2 ^ (ev (p - 1) - (i + 1)) := by rw [← Nat.pow_add]; congr 1; omega
    rw [this]; ac_rfl⟩
  refine ⟨e, by omega, ?_⟩
  have hc := emod_of_dvd_sub (euler_crit hp ho a)
  have hh : (p - 1) / 2 = 2 ^ i * e := by
    rw [he, Nat.pow_succ, show 2 ^ i * 2 * e = 2 * (2 ^ i * e) by ac_rfl]
    exact Nat.mul_div_cancel_left _ (by omega)
  rw [hh] at hc
  have e4 : jac a p % p = (-1) ^ e % p := by
    have h5 : jac a p = jac a p ^ d := (sign_pow_odd (jac_cases a p) hd).symm
    rw [h5]
    have h6 := pow_emod_congr hc d
    rw [← h6, ← Int.pow_mul, show 2 ^ i * e * d = d * 2 ^ i * e by ac_rfl, Int.pow_mul]
    exact pow_emod_congr h e
  have h7 := dvd_sub_of_emod e4
  have hc1 := jac_cases a p
  have hc2 := neg_pow_cases e
  apply Classical.byContradiction
  intro hne
  have h8 : (jac a p - (-1) ^ e).natAbs ≤ 2 := by rcases hc1 with x | x | x <;> rcases hc2 with y | y <;> rw [x, y] <;> decide
  have h9 := Int.natAbs_dvd_natAbs.2 h7
  rw [Int.natAbs_natCast] at h9
  have := Nat.le_of_dvd (by omega) h9
  omega
theorem chain_all {a : Int} {i d : Nat} (hd : d % 2 = 1) : ∀ m : Nat, 0 < m → m % 2 = 1 → a ^ (d * 2 ^ i) % m = (-1) % m → ∃ e : Nat, m = 1 + 2 ^ (i + 1) * e ∧ jac a m = (-1) ^ e := by
  intro m
  induction m using Nat.strongRecOn with
  | ind m ih =>
    intro hm ho h
    by_cases h1 : m = 1
    · subst h1
      exact ⟨0, by simp, by simp [jac, prodI]⟩
    · obtain ⟨p, hp, hpm⟩ := exists_prime m (by omega)
      obtain ⟨k, rfl⟩ := hpm
      have h2 := hp.1
      have hk : 0 < k := Nat.pos_of_ne_zero (by rintro rfl; simp at hm)
      have hpo : p % 2 = 1 := by
        rw [Nat.mul_mod] at ho
        rcases Nat.mod_two_eq_zero_or_one p with e | e
        · rw [e] at ho; simp at ho
        · exact e
      have hko : k % 2 = 1 := by
        rw [Nat.mul_mod] at ho
        rcases Nat.mod_two_eq_zero_or_one k with e | e
        · rw [e] at ho; simp at ho
        · exact e
      have hdv := dvd_sub_of_emod h
      have hp1 : a ^ (d * 2 ^ i) % p = (-1) % p := emod_of_dvd_sub (Int.dvd_trans ⟨(k : Int), by rw [Int.natCast_mul]⟩ hdv)
      have hk1 : a ^ (d * 2 ^ i) % k = (-1) % k := emod_of_dvd_sub (Int.dvd_trans ⟨(p : Int), by rw [Int.natCast_mul, Int.mul_comm]⟩ hdv)
      obtain ⟨e, he, je⟩ := chain_prime' hd hp hpo hp1
      obtain ⟨f, hf, jf⟩ := ih k (by have := Nat.mul_le_mul_right k h2; omega) hk hko hk1
      refine ⟨e + f + 2 ^ (i + 1) * e * f, ?_, ?_⟩
      · conv => lhs; rw [he, hf]
        grind
      · rw [Int.natCast_mul, jac_mul_below (by omega) (by omega) (by omega) (by omega), je, jf, Int.pow_add, Int.pow_add]
        rw [show 2 ^ (i + 1) * e * f = 2 * (2 ^ i * e * f) by rw [Nat.pow_succ]; ac_rfl, neg_pow_even, Int.mul_one]
/-- Euler's criterion, as a test -/
def Eul (a : Int) (n : Nat) : Prop := jac a n ≠ 0 ∧ a ^ ((n - 1) / 2) % n = jac a n % n
theorem eul_of_strong {a : Int} {n : Nat} (h3 : 3 ≤ n) (ho : n % 2 = 1) (h : Strong a n) : Eul a n := by
  obtain ⟨hs1, hs2⟩ := od_spec (m := n - 1) (by omega)
  have hev : 1 ≤ ev (n - 1) := by
    apply Classical.byContradiction
    intro h0
    have : ev (n - 1) = 0 := by omega
    rw [this] at hs1
    omega
  have hhalf : (n - 1) / 2 = od (n - 1) * 2 ^ (ev (n - 1) - 1) := by
    have : 2 ^ ev (n - 1) = 2 * 2 ^ (ev (n - 1) - 1) := by rw [← Nat.pow_succ']; congr 1; omega
    rw [this] at hs1
    have e : od (n - 1) * (2 * 2 ^ (ev (n - 1) - 1)) = 2 * (od (n - 1) * 2 ^ (ev (n - 1) - 1)) := by ac_rfl
    omega
  rcases h with h | ⟨i, hi, h⟩
  · have h1 : a ^ od (n - 1) % n = 1 % n := by rw [h, Int.emod_eq_of_lt (by omega) (by omega)]
    have hj : jac a n = 1 := by
      have e1 := jac_pow (a := a) (n := n) (by omega) (by omega) (od (n - 1))
      rw [jac_congr (dvd_sub_of_emod h1), jac_one, sign_pow_odd (jac_cases a n) hs2] at e1
      exact e1.symm
    refine ⟨by rw [hj]; decide, ?_⟩
    rw [hj, hhalf, Int.pow_mul, pow_emod_congr h1, Int.one_pow]
  · have h1 : a ^ (od (n - 1) * 2 ^ i) % n = (-1) % n := by
      rw [h]
      have : ((-1 : Int)) % n = (-1 + n) % n := by rw [Int.add_emod_right]
      rw [this, Int.emod_eq_of_lt (by omega) (by omega)]; omega
    obtain ⟨e, he, je⟩ := chain_all hs2 n (by omega) ho h1
    have hpw : 2 ^ ev (n - 1) = 2 ^ (i + 1) * 2 ^ (ev (n - 1) - 1 - i) := by rw [← Nat.pow_add]; congr 1; omega
    have he2 : e = od (n - 1) * 2 ^ (ev (n - 1) - 1 - i) := by
      have e1 : 2 ^ (i + 1) * e = 2 ^ (i + 1) * (od (n - 1) * 2 ^ (ev (n - 1) - 1 - i)) := by
        have : 2 ^ (i + 1) * (od (n - 1) * 2 ^ (ev (n - 1) - 1 - i)) = od (n - 1) * 2 ^ ev (n - 1) := by rw [hpw]; ac_rfl
        rw [this, hs1]; omega
      exact Nat.eq_of_mul_eq_mul_left (Nat.pow_pos (by omega)) e1
    refine ⟨by rw [je]; rcases neg_pow_cases e with x | x <;> rw [x] <;> decide, ?_⟩
    have e3 : od (n - 1) * 2 ^ (ev (n - 1) - 1) = od (n - 1) * 2 ^ i * 2 ^ (ev (n - 1) - 1 - i) := by
      rw [Nat.mul_assoc, ← Nat.pow_add]; congr 2; omega
    rw [hhalf, e3, Int.pow_mul, pow_emod_congr h1, je, he2, Int.pow_mul, neg_pow_odd hs2]
theorem fer_of_eul {a : Int} {n : Nat} (h3 : 3 ≤ n) (ho : n % 2 = 1) (h : Eul a n) : a ^ (n - 1) % n = 1 := by
  obtain ⟨h1, h2⟩ := h
  have e : n - 1 = (n - 1) / 2 * 2 := by omega
  rw [e, Int.pow_mul, pow_emod_congr h2]
  have : jac a n ^ 2 = 1 := by rcases jac_cases a n with x | x | x; exact absurd x h1; rw [x]; rfl; rw [x]; rfl
  rw [this, Int.emod_eq_of_lt (by omega) (by omega)]
theorem eul_one {n : Nat} (h3 : 3 ≤ n) : Eul 1 n := by
  refine ⟨by rw [jac_one]; decide, by rw [jac_one, Int.one_pow]⟩
theorem strong_one {n : Nat} (h3 : 3 ≤ n) : Strong 1 n := .inl (by rw [Int.one_pow, Int.emod_eq_of_lt (by omega) (by omega)])
theorem not_eul {a : Int} {n : Nat} (h3 : 3 ≤ n) (h : (n : Int) ∣ a) : ¬ Eul a n := fun ⟨h1, _⟩ => h1 (jac_zero_iff.2 (by
  have := Int.gcd_eq_right (a := a) (b := n) (by omega) h
  omega))
theorem not_fer {a : Int} {n : Nat} (h3 : 3 ≤ n) (h : (n : Int) ∣ a) : ¬ a ^ (n - 1) % n = 1 := by
  obtain ⟨k, hk⟩ : ∃ k, n - 1 = k + 1 := ⟨n - 2, by omega⟩
  rw [hk, Int.pow_succ, Int.emod_eq_zero_of_dvd (Int.dvd_mul_of_dvd_right h)]
  decide
end Go.Proofs.Ytnheboamjfahaaa.M
