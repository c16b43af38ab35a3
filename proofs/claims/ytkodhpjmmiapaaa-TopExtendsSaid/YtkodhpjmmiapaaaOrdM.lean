/- Plain number theory: Carmichael's function by the primes, the order of a number, and how it is found. -/
import Derived.Test.YtkodhpjmmiapaaaPhi
import Derived.Test.YtkodhpjmmiapaaaNum3
namespace Go.Proofs.Ytkodhpjmmiapaaa.M
set_option linter.unusedVariables false
/-- a power is 1 -/
def One (a m : Int) (k : Nat) : Prop := a ^ k % m = 1 % m
theorem One.zero (a m : Int) : One a m 0 := by simp [One]
theorem One.mul {a m : Int} {k : Nat} (h : One a m k) (j : Nat) : One a m (k * j) := by
  unfold One at h ⊢
  rw [Int.pow_mul, pow_emod_congr h, Int.one_pow]
theorem One.dvd {a m : Int} {k j : Nat} (h : One a m k) (hd : k ∣ j) : One a m j := by
  obtain ⟨c, rfl⟩ := hd
  exact h.mul c
theorem One.add_iff {a m : Int} {k j : Nat} (h : One a m k) : One a m (k + j) ↔ One a m j := by
  unfold One at h ⊢
  rw [Int.pow_add, Int.mul_emod, h, ← Int.mul_emod, Int.one_mul]
theorem One.mod {a m : Int} {k j : Nat} (h : One a m k) (hj : One a m j) : One a m (j % k) := by
  have e := Nat.div_add_mod j k
  rw [← e] at hj
  exact ((h.mul (j / k)).add_iff).1 hj
theorem One.gcd {a m : Int} : ∀ (k j : Nat), One a m k → One a m j → One a m (Nat.gcd k j) := by
  intro k
  induction k using Nat.strongRecOn with
  | ind k ih =>
    intro j hk hj
    by_cases h0 : k = 0
    · subst h0; rw [Nat.gcd_zero_left]; exact hj
    · rw [Nat.gcd_rec]
      exact ih (j % k) (Nat.mod_lt _ (by omega)) k (hk.mod hj) hk
/-- the order -/
def IsOrd (a m : Int) (k : Nat) : Prop := 0 < k ∧ One a m k ∧ ∀ j, One a m j → k ∣ j
theorem isOrd_of {a m : Int} {k : Nat} (h0 : 0 < k) (h1 : One a m k) (h2 : ∀ p, Pr p → p ∣ k → ¬ One a m (k / p)) : IsOrd a m k := by
  refine ⟨h0, h1, fun j hj => ?_⟩
  have hg := One.gcd k j h1 hj
  obtain ⟨c, hc⟩ := Nat.gcd_dvd_left k j
  by_cases hc1 : c = 1
  · rw [hc1, Nat.mul_one] at hc
    rw [hc]; exact Nat.gcd_dvd_right k j
  · have hc0 : c ≠ 0 := by rintro rfl; omega
    obtain ⟨p, hp, d, rfl⟩ := exists_prime c (by omega)
    have e1 : k = p * (Nat.gcd k j * d) := hc.trans (by ac_rfl)
    refine absurd ?_ (h2 p hp ⟨_, e1⟩)
    rw [Nat.div_eq_of_eq_mul_right hp.pos e1]
    exact hg.mul d
/-- what a prime power gives -/
def xq (q : Nat × Nat) : Nat := if q.1 = 2 ∧ 2 < q.2 then (q.1 - 1) * q.1 ^ (q.2 - 1) / 2 else (q.1 - 1) * q.1 ^ (q.2 - 1)
def lamf (L : Nat) (l : List (Nat × Nat)) : Nat := l.foldl (fun x q => Nat.lcm x (xq q)) L
theorem lamf_snoc (L : Nat) (l : List (Nat × Nat)) (q : Nat × Nat) : lamf L (l ++ [q]) = Nat.lcm (lamf L l) (xq q) := by simp [lamf]
theorem lamf_dvd (l : List (Nat × Nat)) : ∀ L, L ∣ lamf L l := by
  induction l with
  | nil => intro L; exact Nat.dvd_refl L
  | cons q t ih => intro L; exact Nat.dvd_trans (Nat.dvd_lcm_left L (xq q)) (ih _)
theorem lamf_mem (l : List (Nat × Nat)) : ∀ L, ∀ q ∈ l, xq q ∣ lamf L l := by
  induction l with
  | nil => intro L q hq; simp at hq
  | cons x t ih =>
    intro L q hq
    rcases List.mem_cons.1 hq with e | e
    · subst e; exact Nat.dvd_trans (Nat.dvd_lcm_right L (xq q)) (lamf_dvd t _)
    · exact ih _ q e
def lam (n : Nat) : Nat := lamf 1 (fac n)
def prodP (l : List (Nat × Nat)) : Nat := l.foldr (fun q x => q.1 ^ q.2 * x) 1
theorem prodP_fac {b n : Nat} {l : List (Nat × Nat)} (h : FacL b n l) : prodP l = n := by
  induction l generalizing b n with
  | nil => have : n = 1 := h; subst this; rfl
  | cons q t ih =>
    obtain ⟨h1, h2, h3, m, h4, h5, h6⟩ := h
    show q.1 ^ q.2 * prodP t = n
    rw [ih h6, h4]
theorem prodP_append (l t : List (Nat × Nat)) : prodP (l ++ t) = prodP l * prodP t := by
  induction l with
  | nil => show prodP t = 1 * prodP t; omega
  | cons q l ih => show q.1 ^ q.2 * prodP (l ++ t) = q.1 ^ q.2 * prodP l * prodP t; rw [ih, Nat.mul_assoc]
theorem xq_le {q : Nat × Nat} (h1 : 2 ≤ q.1) (h2 : 1 ≤ q.2) : 1 ≤ xq q ∧ xq q ≤ q.1 ^ q.2 := by
  obtain ⟨k, hk⟩ : ∃ k, q.2 = k + 1 := ⟨q.2 - 1, by omega⟩
  have e : (q.1 - 1) * q.1 ^ (q.2 - 1) ≤ q.1 ^ q.2 := by
    rw [hk, Nat.pow_succ, Nat.add_sub_cancel, Nat.mul_comm]
    exact Nat.mul_le_mul_left _ (by omega)
  have hp : 0 < q.1 ^ (q.2 - 1) := Nat.pow_pos (by omega)
  have e1 : 1 ≤ (q.1 - 1) * q.1 ^ (q.2 - 1) := Nat.mul_pos (by omega) hp
  unfold xq
  split
  · rename_i hc
    have e2 : 2 ≤ (q.1 - 1) * q.1 ^ (q.2 - 1) := by
      obtain ⟨j, hj⟩ : ∃ j, q.2 = j + 2 := ⟨q.2 - 2, by omega⟩
      rw [hc.1, hj, show j + 2 - 1 = j + 1 by omega, Nat.pow_succ]
      have := Nat.pow_pos (n := j) (show 0 < 2 by omega)
      omega
    omega
  · exact ⟨e1, e⟩
theorem lamf_le (l : List (Nat × Nat)) : ∀ L, 1 ≤ L → (∀ q ∈ l, 2 ≤ q.1 ∧ 1 ≤ q.2) → 1 ≤ lamf L l ∧ lamf L l ≤ L * prodP l := by
  induction l with
  | nil => intro L h _; exact ⟨h, by show L ≤ L * 1; omega⟩
  | cons q t ih =>
    intro L h hq
    obtain ⟨x1, x2⟩ := xq_le (hq q (by simp)).1 (hq q (by simp)).2
    have hl : 1 ≤ Nat.lcm L (xq q) := Nat.lcm_pos (by omega) (by omega)
    obtain ⟨i1, i2⟩ := ih (Nat.lcm L (xq q)) hl (fun y hy => hq y (by simp [hy]))
    refine ⟨i1, Nat.le_trans i2 ?_⟩
    show _ ≤ L * (q.1 ^ q.2 * prodP t)
    rw [← Nat.mul_assoc]
    refine Nat.mul_le_mul_right _ (Nat.le_trans (Nat.le_of_dvd (Nat.mul_pos (by omega) (by omega)) (Nat.lcm_dvd_mul L (xq q))) (Nat.mul_le_mul_left _ x2))
theorem fac_mem {n : Nat} (h : 0 < n) : ∀ q ∈ fac n, 2 ≤ q.1 ∧ 1 ≤ q.2 := fun q hq => by
  obtain ⟨h1, h2, h3, _⟩ := (fac_spec h).dvd q hq
  exact ⟨h3, h2⟩
theorem lam_prefix {n : Nat} (h : 0 < n) {pre : List (Nat × Nat)} (hp : pre <+: fac n) : 1 ≤ lamf 1 pre ∧ lamf 1 pre ≤ n := by
  obtain ⟨t, ht⟩ := hp
  obtain ⟨i1, i2⟩ := lamf_le pre 1 (Nat.le_refl 1) (fun q hq => fac_mem h q (by rw [← ht]; simp [hq]))
  refine ⟨i1, Nat.le_trans i2 ?_⟩
  have e := prodP_fac (fac_spec h)
  rw [← ht, prodP_append] at e
  rw [Nat.one_mul]
  refine Nat.le_of_dvd h ⟨prodP t, e.symm⟩
/-- odd numbers and powers of 2 -/
theorem one_two {a : Int} (ho : a % 2 = 1) : ∀ j : Nat, (2 : Int) ^ (j + 3) ∣ a ^ (2 ^ (j + 1)) - 1
  | 0 => by
    obtain ⟨u, rfl⟩ : ∃ u, a = 2 * u + 1 := ⟨a / 2, by omega⟩
    show (8 : Int) ∣ (2 * u + 1) ^ 2 - 1
    have e : (2 * u + 1) ^ 2 - 1 = 4 * (u * (u + 1)) := by grind
    rw [e]
    have : (2 : Int) ∣ u * (u + 1) := by
      rcases Int.emod_two_eq u with h | h
      · exact Int.dvd_mul_of_dvd_left (Int.dvd_of_emod_eq_zero h)
      · exact Int.dvd_mul_of_dvd_right (Int.dvd_of_emod_eq_zero (by omega))
    obtain ⟨c, hc⟩ := this
    exact ⟨c, by rw [hc]; omega⟩
  | j + 1 => by
    obtain ⟨t, ht⟩ := one_two ho j
    have e : a ^ (2 ^ (j + 1 + 1)) - 1 = (a ^ (2 ^ (j + 1)) - 1) * (a ^ (2 ^ (j + 1)) + 1) := by
      rw [Nat.pow_succ 2 (j + 1), Int.pow_mul]; grind
    have e2 : a ^ (2 ^ (j + 1)) + 1 = 2 * (2 ^ (j + 2) * t + 1) := by
      have : a ^ (2 ^ (j + 1)) = 2 ^ (j + 3) * t + 1 := by omega
      rw [this, Int.pow_succ 2 (j + 2)]; grind
    rw [e, ht, e2, Int.pow_succ 2 (j + 3)]
    exact ⟨t * (2 ^ (j + 2) * t + 1), by grind⟩
theorem dvd_of_one {a : Int} {m : Int} {k : Nat} (h : One a m k) : m ∣ a ^ k - 1 := Int.dvd_of_emod_eq_zero (Int.emod_eq_emod_iff_emod_sub_eq_zero.1 h)
theorem one_of_dvd {a : Int} {m : Int} {k : Nat} (h : m ∣ a ^ k - 1) : One a m k := Int.emod_eq_emod_iff_emod_sub_eq_zero.2 (Int.emod_eq_zero_of_dvd h)
theorem gcd_emod' (a m : Int) : Int.gcd (a % m) m = Int.gcd a m := by
  apply Nat.dvd_antisymm
  · refine Int.ofNat_dvd.1 (Int.dvd_coe_gcd ?_ (Int.gcd_dvd_right ..))
    have e := Int.emod_add_mul_ediv a m
    rw [← e]
    have h1 : ((Int.gcd (a % m) m : Nat) : Int) ∣ a % m := Int.gcd_dvd_left ..
    have h2 : ((Int.gcd (a % m) m : Nat) : Int) ∣ m := Int.gcd_dvd_right ..
    simp only [Int.emod_add_mul_ediv]
    conv => rhs; rw [← e]
    exact Int.dvd_add h1 (Int.dvd_mul_of_dvd_left h2)
  · refine Int.ofNat_dvd.1 (Int.dvd_coe_gcd ?_ (Int.gcd_dvd_right ..))
    rw [Int.emod_def]
    exact Int.dvd_sub (Int.gcd_dvd_left ..) (Int.dvd_mul_of_dvd_left (Int.gcd_dvd_right ..))
theorem pow_phi_int {a : Int} {m : Nat} (h : Int.gcd a m = 1) : One a m (phi m) := by
  have hm : 0 < m ∨ m = 0 := by omega
  rcases hm with hm | rfl
  · have hc : Nat.Coprime m (a % m).toNat := by
      have h1 : Int.gcd (a % m) m = 1 := by rw [gcd_emod' a m]; exact h
      have e : ((a % m).toNat : Int) = a % m := Int.toNat_of_nonneg (Int.emod_nonneg _ (by omega))
      rw [← e] at h1
      unfold Nat.Coprime
      rw [Nat.gcd_comm]; exact h1
    have h2 := pow_phi hc
    have h3 : (((a % m).toNat ^ phi m % m : Nat) : Int) = ((1 % m : Nat) : Int) := by rw [h2]
    rw [natCast_pow_emod, Int.toNat_of_nonneg (Int.emod_nonneg _ (by omega)), emod_pow] at h3
    unfold One
    rw [h3]; rfl
  · show a ^ 0 % _ = _
    simp
theorem xq_one {a : Int} {q : Nat × Nat} (hp : Pr q.1) (hk : 1 ≤ q.2) (h : ¬ (q.1 : Int) ∣ a) : One a ((q.1 ^ q.2 : Nat) : Int) (xq q) := by
  obtain ⟨k, hk'⟩ : ∃ k, q.2 = k + 1 := ⟨q.2 - 1, by omega⟩
  unfold xq
  split
  · rename_i hc
    obtain ⟨j, hj⟩ : ∃ j, q.2 = j + 3 := ⟨q.2 - 3, by omega⟩
    rw [hc.1, hj]
    have e : (2 - 1) * 2 ^ (j + 3 - 1) / 2 = 2 ^ (j + 1) := by
      rw [show j + 3 - 1 = j + 1 + 1 by omega, Nat.pow_succ 2 (j + 1)]; omega
    rw [e]
    have ho : a % 2 = 1 := by
      rw [hc.1] at h
      rcases Int.emod_two_eq a with e | e
      · exact absurd (Int.dvd_of_emod_eq_zero e) h
      · exact e
    refine one_of_dvd ?_
    have := one_two ho j
    rwa [Int.natCast_pow]
  · have hg : Int.gcd a ((q.1 ^ q.2 : Nat) : Int) = 1 := by
      have h1 : Nat.Coprime q.1 a.natAbs := hp.cop fun hd => h (Int.ofNat_dvd_left.2 hd)
      have h2 : Nat.Coprime (q.1 ^ q.2) a.natAbs := Nat.Coprime.pow_left _ h1
      have : Int.gcd a ((q.1 ^ q.2 : Nat) : Int) = Nat.gcd a.natAbs (q.1 ^ q.2) := rfl
      rw [this, Nat.gcd_comm]; exact h2
    have := pow_phi_int hg
    have e : phi (q.1 ^ q.2) = (q.1 - 1) * q.1 ^ (q.2 - 1) := by
      have h3 := phi_pow (m := 1) hp (fun hd => by have := Nat.le_of_dvd (by omega) hd; have := hp.1; omega) k
      rw [Nat.mul_one, ← hk', phi_one] at h3
      rw [h3, hk']; simp [Nat.mul_comm]
    rwa [e] at this
theorem one_fac {a : Int} {b n : Nat} {l : List (Nat × Nat)} (h : FacL b n l) (E : Nat) (hE : ∀ q ∈ l, xq q ∣ E) (ha : ∀ p : Nat, Pr p → p ∣ n → ¬ (p : Int) ∣ a) : One a n E := by
  induction l generalizing b n with
  | nil => have : n = 1 := h; subst this; simp [One]
  | cons q t ih =>
    obtain ⟨h1, h2, h3, m, h4, h5, h6⟩ := h
    obtain ⟨k, hk'⟩ : ∃ k, q.2 = k + 1 := ⟨q.2 - 1, by omega⟩
    have hqn : q.1 ∣ n := ⟨q.1 ^ k * m, by rw [h4, hk', Nat.pow_succ]; ac_rfl⟩
    have o1 := (xq_one h2 h3 (ha q.1 h2 hqn)).dvd (hE q (by simp))
    have o2 := ih h6 (fun y hy => hE y (by simp [hy])) (fun p hp hd => ha p hp (Nat.dvd_trans hd ⟨q.1 ^ q.2, by rw [h4, Nat.mul_comm]⟩))
    refine one_of_dvd ?_
    rw [h4, Int.natCast_mul]
    have hc : Nat.Coprime (q.1 ^ q.2) m := Nat.Coprime.pow_left _ (h2.cop h5)
    have d1 := Int.ofNat_dvd_left.1 (dvd_of_one o1)
    have d2 := Int.ofNat_dvd_left.1 (dvd_of_one o2)
    rw [← Int.natCast_mul]
    exact Int.ofNat_dvd_left.2 (Nat.Coprime.mul_dvd_of_dvd_of_dvd hc d1 d2)
theorem one_lam {a : Int} {n : Nat} (h : 0 < n) (hg : Int.gcd a n = 1) : One a n (lam n) := by
  refine one_fac (fac_spec h) _ (lamf_mem _ _) fun p hp hd hda => ?_
  have h1 : (p : Int) ∣ (Int.gcd a n : Int) := Int.dvd_coe_gcd hda (Int.natCast_dvd_natCast.2 hd)
  rw [hg] at h1
  have := Int.le_of_dvd (by omega) h1
  have := hp.1
  omega
/-- the search for the order, in the midst of it -/
def ORel (a m : Int) (K : Nat) (pre : List (Nat × Nat)) (k : Nat) : Prop := 0 < k ∧ k ∣ K ∧ One a m k ∧ ∀ q ∈ pre, ¬ (q.1 ∣ k ∧ One a m (k / q.1))
theorem ORel.div {a m : Int} {K k p : Nat} {pre : List (Nat × Nat)} (h : ORel a m K pre k) (hp : 2 ≤ p) (hd : p ∣ k) (h1 : One a m (k / p)) : ORel a m K pre (k / p) ∧ k / p < k := by
  obtain ⟨h0, h2, h3, h4⟩ := h
  obtain ⟨c, rfl⟩ := hd
  have e : p * c / p = c := Nat.mul_div_cancel_left _ (by omega)
  rw [e] at h1 ⊢
  have hc : 0 < c := Nat.pos_of_ne_zero (by rintro rfl; omega)
  refine ⟨⟨hc, Nat.dvd_trans ⟨p, Nat.mul_comm _ _⟩ h2, h1, fun q hq hh => h4 q hq ⟨Nat.dvd_trans hh.1 ⟨p, Nat.mul_comm _ _⟩, ?_⟩⟩, ?_⟩
  · obtain ⟨⟨d, hd⟩, h6⟩ := hh
    by_cases hq0 : q.1 = 0
    · rw [hq0, Nat.div_zero]; exact One.zero a m
    · subst hd
      rw [Nat.mul_div_cancel_left _ (by omega)] at h6
      rw [show p * (q.1 * d) = q.1 * (d * p) by ac_rfl, Nat.mul_div_cancel_left _ (by omega)]
      exact h6.mul p
  · have := Nat.mul_le_mul_right c hp; omega
theorem ORel.next {a m : Int} {K k : Nat} {q : Nat × Nat} {pre : List (Nat × Nat)} (h : ORel a m K pre k) (h1 : ¬ (q.1 ∣ k ∧ One a m (k / q.1))) : ORel a m K (pre ++ [q]) k :=
  ⟨h.1, h.2.1, h.2.2.1, fun x hx => (List.mem_append.1 hx).elim (h.2.2.2 x) (fun e => by simp at e; subst e; exact h1)⟩
theorem FacL.all {b n : Nat} {l : List (Nat × Nat)} (h : FacL b n l) {p : Nat} (hp : Pr p) (hd : p ∣ n) : ∃ q ∈ l, q.1 = p := by
  induction l generalizing b n with
  | nil => have : n = 1 := h; subst this; have := Nat.le_of_dvd (by omega) hd; have := hp.1; omega
  | cons q t ih =>
    obtain ⟨h1, h2, h3, m, h4, h5, h6⟩ := h
    rw [h4] at hd
    rcases hp.dvd_mul hd with h | h
    · exact ⟨q, by simp, (hp.eq_of_dvd h2 (hp.dvd_pow h)).symm⟩
    · obtain ⟨x, hx, e⟩ := ih h6 h
      exact ⟨x, by simp [hx], e⟩
theorem ORel.fin {a m : Int} {K k : Nat} (hK : 0 < K) (h : ORel a m K (fac K) k) : IsOrd a m k := by
  refine isOrd_of h.1 h.2.2.1 fun p hp hd h1 => ?_
  obtain ⟨q, hq, e⟩ := (fac_spec hK).all hp (Nat.dvd_trans hd h.2.1)
  exact h.2.2.2 q hq ⟨by rw [e]; exact hd, by rw [e]; exact h1⟩
end Go.Proofs.Ytkodhpjmmiapaaa.M
