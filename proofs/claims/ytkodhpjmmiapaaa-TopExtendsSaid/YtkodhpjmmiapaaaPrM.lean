/- Plain mathematics of the factorization by trial: the list of primes and exponents. -/
import Derived.Test.YtkodhpjmmiapaaaNum1
namespace Go.Proofs.Ytkodhpjmmiapaaa.M
set_option linter.unusedVariables false
/-- how often q divides n, and what is left (with fuel) -/
def strip : Nat → Nat → Nat → Nat × Nat
  | 0, _, n => (0, n)
  | f + 1, q, n => if n % q = 0 then ((strip f q (n / q)).1 + 1, (strip f q (n / q)).2) else (0, n)
theorem strip_spec {q : Nat} (hq : 2 ≤ q) : ∀ f n : Nat, 0 < n → n ≤ f → n = q ^ (strip f q n).1 * (strip f q n).2 ∧ ¬ q ∣ (strip f q n).2 ∧ 0 < (strip f q n).2
  | 0, n, h0, h1 => by omega
  | f + 1, n, h0, h1 => by
    unfold strip
    by_cases h : n % q = 0
    · rw [if_pos h]
      have hd := Nat.div_add_mod n q
      have hlt : n / q < n := Nat.div_lt_self h0 hq
      have hpos : 0 < n / q := Nat.div_pos (Nat.le_of_dvd h0 (Nat.dvd_of_mod_eq_zero h)) (by omega)
      obtain ⟨e1, e2, e3⟩ := strip_spec hq f (n / q) hpos (by omega)
      refine ⟨?_, e2, e3⟩
      show n = q ^ ((strip f q (n / q)).1 + 1) * (strip f q (n / q)).2
      rw [Nat.pow_succ, Nat.mul_comm _ q, Nat.mul_assoc, ← e1]; omega
    · rw [if_neg h]
      exact ⟨by simp, fun hd => h (Nat.mod_eq_zero_of_dvd hd), h0⟩
theorem strip_fuel {q : Nat} (hq : 2 ≤ q) : ∀ f g n : Nat, 0 < n → n ≤ f → n ≤ g → strip f q n = strip g q n
  | 0, _, n, h0, h1, _ => by omega
  | f + 1, 0, n, h0, _, h1 => by omega
  | f + 1, g + 1, n, h0, h1, h2 => by
    unfold strip
    by_cases h : n % q = 0
    · have hlt : n / q < n := Nat.div_lt_self h0 hq
      have hpos : 0 < n / q := Nat.div_pos (Nat.le_of_dvd h0 (Nat.dvd_of_mod_eq_zero h)) (by omega)
      rw [if_pos h, if_pos h, strip_fuel hq f g (n / q) hpos (by omega) (by omega)]
    · rw [if_neg h, if_neg h]
/-- in the midst of it: K times divided, M left -/
def Strip (q n K M : Nat) : Prop := 0 < M ∧ M ≤ n ∧ K + M ≤ n + 1 ∧ strip n q n = (K + (strip M q M).1, (strip M q M).2)
theorem Strip.init {q n : Nat} (h : 0 < n) : Strip q n 0 n := ⟨h, Nat.le_refl n, by omega, by simp⟩
theorem Strip.step {q n K M : Nat} (h : Strip q n K M) (hq : 2 ≤ q) (hd : M % q = 0) : Strip q n (K + 1) (M / q) := by
  obtain ⟨h0, h1, h2, h3⟩ := h
  have hlt : M / q < M := Nat.div_lt_self h0 hq
  have hpos : 0 < M / q := Nat.div_pos (Nat.le_of_dvd h0 (Nat.dvd_of_mod_eq_zero hd)) (by omega)
  refine ⟨hpos, by omega, by omega, ?_⟩
  rw [h3]
  obtain ⟨m, rfl⟩ : ∃ m, M = m + 1 := ⟨M - 1, by omega⟩
  have e : strip (m + 1) q (m + 1) = ((strip m q ((m + 1) / q)).1 + 1, (strip m q ((m + 1) / q)).2) := by
    conv => lhs; unfold strip
    rw [if_pos hd]
  rw [e, strip_fuel hq m ((m + 1) / q) ((m + 1) / q) hpos (by omega) (Nat.le_refl _)]
  simp; omega
theorem Strip.fin {q n K M : Nat} (h : Strip q n K M) (hd : M % q ≠ 0) : strip n q n = (K, M) := by
  obtain ⟨h0, h1, h2, h3⟩ := h
  rw [h3]
  obtain ⟨m, rfl⟩ : ∃ m, M = m + 1 := ⟨M - 1, by omega⟩
  unfold strip
  rw [if_neg hd]; simp
/-- the list: a lower bound of the primes, the number, the primes with their exponents -/
def FacL : Nat → Nat → List (Nat × Nat) → Prop
  | _, n, [] => n = 1
  | b, n, x :: t => b ≤ x.1 ∧ Pr x.1 ∧ 1 ≤ x.2 ∧ ∃ m, n = x.1 ^ x.2 * m ∧ ¬ x.1 ∣ m ∧ FacL (x.1 + 1) m t
/-- the search from p on -/
def facs : Nat → Nat → Nat → List (Nat × Nat)
  | 0, _, _ => []
  | f + 1, p, n => if n ≤ 1 then [] else
      if (strip n (if n < p * p then n else p) n).1 = 0 then facs f (p + 1) n
      else (if n < p * p then n else p, (strip n (if n < p * p then n else p) n).1) :: facs f ((if n < p * p then n else p) + 1) (strip n (if n < p * p then n else p) n).2
/-- no divisor from 2 on below p -/
def Clean (p n : Nat) : Prop := ∀ d, 2 ≤ d → d < p → ¬ d ∣ n
theorem Clean.le {p n : Nat} (h : Clean p n) (hn : 1 < n) : p ≤ n := by
  apply Classical.byContradiction
  intro hlt
  exact h n (by omega) (by omega) (Nat.dvd_refl n)
/-- the number that is tried: what is known of it -/
theorem Clean.tried {p n q : Nat} (h : Clean p n) (hp : 2 ≤ p) (hn : 1 < n) (hq : q = if n < p * p then n else p) : p ≤ q ∧ q ≤ n ∧ (q ∣ n → Pr q) ∧ (n < p * p → q ∣ n) := by
  have hle := h.le hn
  by_cases hc : n < p * p
  · rw [if_pos hc] at hq
    subst hq
    refine ⟨hle, Nat.le_refl _, fun _ => ?_, fun _ => Nat.dvd_refl _⟩
    rw [Pr.iff_trial]
    refine ⟨by omega, fun d hd hdd => h d hd ?_⟩
    apply Classical.byContradiction
    intro hge
    have := Nat.mul_le_mul (show p ≤ d by omega) (show p ≤ d by omega)
    omega
  · rw [if_neg hc] at hq
    subst hq
    refine ⟨Nat.le_refl _, hle, fun hd => ⟨hp, fun d hdq => ?_⟩, fun h => absurd h hc⟩
    have hdle := Nat.le_of_dvd (by omega) hdq
    by_cases h1 : d = 1
    · exact .inl h1
    · by_cases h2 : d = q
      · exact .inr h2
      · have h0 : d ≠ 0 := by rintro rfl; have := Nat.eq_zero_of_zero_dvd hdq; omega
        exact absurd (Nat.dvd_trans hdq hd) (h d (by omega) (by omega))
theorem Clean.next {p n q : Nat} (h : Clean p n) (hp : 2 ≤ p) (hn : 1 < n) (hq : q = if n < p * p then n else p) {k m : Nat} (hm : n = q ^ k * m) (hqm : ¬ q ∣ m) : Clean (q + 1) m := by
  intro d hd hlt hdm
  have hdn : d ∣ n := Nat.dvd_trans hdm ⟨q ^ k, by rw [hm, Nat.mul_comm]⟩
  by_cases hdq : d = q
  · subst hdq; exact hqm hdm
  · by_cases hdp : d < p
    · exact h d hd hdp hdn
    · -- p ≤ d < q: then q = n is prime
      by_cases hc : n < p * p
      · rw [if_pos hc] at hq
        have hpr := (h.tried hp hn (q := n) (by rw [if_pos hc])).2.2.1 (Nat.dvd_refl _)
        rcases hpr.2 d hdn with e | e <;> omega
      · rw [if_neg hc] at hq; omega
theorem facs_spec : ∀ f p n : Nat, 2 ≤ p → 0 < n → Clean p n → n + 1 ≤ f + p → FacL p n (facs f p n)
  | 0, p, n, hp, hn, hc, hf => by
    have : n = 1 := by
      rcases Nat.lt_or_ge 1 n with h | h
      · have := hc.le h; omega
      · omega
    exact this
  | f + 1, p, n, hp, hn, hc, hf => by
    unfold facs
    by_cases h1 : n ≤ 1
    · rw [if_pos h1]; show n = 1; omega
    · rw [if_neg h1]
      obtain ⟨q, hq⟩ : ∃ q, q = if n < p * p then n else p := ⟨_, rfl⟩
      rw [← hq]
      obtain ⟨t1, t2, t3, t4⟩ := hc.tried hp (by omega) hq
      obtain ⟨s1, s2, s3⟩ := strip_spec (show 2 ≤ q by omega) n n hn (Nat.le_refl n)
      by_cases hk : (strip n q n).1 = 0
      · rw [if_pos hk]
        rw [hk, Nat.pow_zero, Nat.one_mul] at s1
        rw [← s1] at s2
        have hpq : q = p := by
          by_cases hlt : n < p * p
          · exact absurd (t4 hlt) s2
          · rw [if_neg hlt] at hq; exact hq
        subst hpq
        have := hc.next hp (by omega) hq (k := 0) (m := n) (by simp) s2
        have h2 := facs_spec f (q + 1) n (by omega) hn this (by omega)
        have weak : ∀ b c n l, c ≤ b → FacL b n l → FacL c n l := by
          intro b c n l hbc h
          cases l with
          | nil => exact h
          | cons x t => exact ⟨by have := h.1; omega, h.2⟩
        exact weak _ _ _ _ (by omega) h2
      · rw [if_neg hk]
        have hdn : q ∣ n := by
          rw [s1]
          obtain ⟨j, hj⟩ : ∃ j, (strip n q n).1 = j + 1 := ⟨(strip n q n).1 - 1, by omega⟩
          rw [hj, Nat.pow_succ]; exact ⟨q ^ j * (strip n q n).2, by grind⟩
        refine ⟨t1, t3 hdn, by omega, (strip n q n).2, s1, s2, ?_⟩
        have hle : (strip n q n).2 ≤ n := by
          have := Nat.le_mul_of_pos_left (strip n q n).2 (Nat.pow_pos (n := (strip n q n).1) (show 0 < q by omega))
          omega
        exact facs_spec f (q + 1) _ (by omega) s3 (hc.next hp (by omega) hq s1 s2) (by omega)
def fac' (n : Nat) : List (Nat × Nat) := facs n 2 n
/-- what stands at the head of a round of the search -/
def FRel (N : Nat) (pre : List (Nat × Nat)) (p n : Nat) : Prop := ∃ f, fac' N = pre ++ facs f p n ∧ 2 ≤ p ∧ 0 < n ∧ n ≤ N ∧ Clean p n ∧ n + 1 ≤ f + p ∧ p ≤ N + 2
theorem FRel.init {N : Nat} (h : 0 < N) : FRel N [] 2 N := ⟨N, rfl, by omega, h, Nat.le_refl N, fun d h1 h2 => by omega, by omega, by omega⟩
theorem FRel.fin {N p n : Nat} {pre : List (Nat × Nat)} (h : FRel N pre p n) (hn : n ≤ 1) : fac' N = pre := by
  obtain ⟨f, h1, _⟩ := h
  rw [h1]
  cases f with
  | zero => simp [facs]
  | succ f => unfold facs; rw [if_pos hn]; simp
theorem FRel.step {N p n q K M : Nat} {pre : List (Nat × Nat)} (h : FRel N pre p n) (hn : 1 < n) (hq : q = if n < p * p then n else p) (hs : strip n q n = (K, M)) :
    2 ≤ q ∧ q ≤ n ∧ p ≤ q ∧ 0 < M ∧ M ≤ n ∧ (K = 0 → FRel N pre (q + 1) M ∧ M = n) ∧ (0 < K → FRel N (pre ++ [(q, K)]) (q + 1) M ∧ pre ++ [(q, K)] <+: fac' N) ∧ M + 1 - (q + 1) < n + 1 - p := by
  obtain ⟨f, h1, h2, h3, h4, h5, h6, h7⟩ := h
  obtain ⟨t1, t2, t3, t4⟩ := h5.tried h2 hn hq
  obtain ⟨s1, s2, s3⟩ := strip_spec (show 2 ≤ q by omega) n n h3 (Nat.le_refl n)
  have hle := h5.le hn
  rw [hs] at s1 s2 s3
  simp only at s1 s2 s3
  have hcl := h5.next h2 hn hq s1 s2
  have hMn : M ≤ n := by
    have := Nat.le_mul_of_pos_left M (Nat.pow_pos (n := K) (show 0 < q by omega))
    omega
  obtain ⟨g, hg⟩ : ∃ g, f = g + 1 := ⟨f - 1, by omega⟩
  subst hg
  have hf : facs (g + 1) p n = if K = 0 then facs g (p + 1) n else (q, K) :: facs g (q + 1) M := by
    conv => lhs; unfold facs
    rw [if_neg (by omega), ← hq, hs]
  refine ⟨by omega, t2, t1, s3, hMn, fun hK => ?_, fun hK => ?_, by omega⟩
  · subst hK
    simp only [Nat.pow_zero, Nat.one_mul] at s1
    have hpq : q = p := by
      by_cases hlt : n < p * p
      · exact absurd (by rw [← s1]; exact t4 hlt) s2
      · rw [if_neg hlt] at hq; exact hq
    rw [if_pos rfl] at hf
    rw [← s1] at hcl ⊢
    exact ⟨⟨g, by rw [h1, hf, hpq], by omega, h3, h4, hcl, by omega, by omega⟩, rfl⟩
  · rw [if_neg (by omega)] at hf
    refine ⟨⟨g, by rw [h1, hf]; simp, by omega, s3, by omega, hcl, by omega, by omega⟩, ⟨facs g (q + 1) M, by rw [h1, hf]; simp⟩⟩
/-- the factorization -/
def fac (n : Nat) : List (Nat × Nat) := fac' n
theorem fac_spec {n : Nat} (h : 0 < n) : FacL 2 n (fac n) := facs_spec n 2 n (by omega) h (fun d h1 h2 => by omega) (by omega)
theorem FacL.dvd {b n : Nat} {l : List (Nat × Nat)} (h : FacL b n l) : ∀ x ∈ l, Pr x.1 ∧ 1 ≤ x.2 ∧ b ≤ x.1 ∧ x.1 ^ x.2 ∣ n := by
  induction l generalizing b n with
  | nil => intro x hx; simp at hx
  | cons y t ih =>
    intro x hx
    obtain ⟨h1, h2, h3, m, h4, h5, h6⟩ := h
    rcases List.mem_cons.1 hx with e | e
    · subst e; exact ⟨h2, h3, h1, ⟨m, h4⟩⟩
    · obtain ⟨k1, k2, k3, k4⟩ := ih h6 x e
      exact ⟨k1, k2, by omega, Nat.dvd_trans k4 ⟨y.1 ^ y.2, by rw [h4, Nat.mul_comm]⟩⟩
/-- a number is a prime just if it is the first of its primes -/
theorem fac_prime {n : Nat} (h : 0 < n) : Pr n ↔ ∃ k t, fac n = (n, k) :: t := by
  have hs := fac_spec h
  constructor
  · intro hp
    cases hf : fac n with
    | nil => rw [hf] at hs; have : n = 1 := hs; have := hp.1; omega
    | cons x t =>
      rw [hf] at hs
      obtain ⟨_, h2, h3, m, h4, _, _⟩ := hs
      have hd : x.1 ∣ n := by
        obtain ⟨j, hj⟩ : ∃ j, x.2 = j + 1 := ⟨x.2 - 1, by omega⟩
        rw [h4, hj, Nat.pow_succ]; exact ⟨x.1 ^ j * m, by grind⟩
      have := h2.eq_of_dvd hp hd
      exact ⟨x.2, t, by rw [← this]⟩
  · rintro ⟨k, t, e⟩
    rw [e] at hs
    exact hs.2.1
end Go.Proofs.Ytkodhpjmmiapaaa.M
