/- Plain number theory: how many have nothing in common with a number: by its primes. -/
import Derived.Test.YtkodhpjmmiapaaaPrM
namespace Go.Proofs.Ytkodhpjmmiapaaa.M
set_option linter.unusedVariables false
def cnt (f : Nat → Bool) : Nat → Nat
  | 0 => 0
  | n + 1 => cnt f n + (f n).toNat
theorem cnt_eq (f : Nat → Bool) : ∀ n, ((List.range n).filter f).length = cnt f n
  | 0 => rfl
  | n + 1 => by
    rw [List.range_succ, List.filter_append, List.length_append, cnt_eq f n]
    cases h : f n <;> simp [cnt, h]
theorem cnt_congr {f g : Nat → Bool} : ∀ n, (∀ x, x < n → f x = g x) → cnt f n = cnt g n
  | 0, _ => rfl
  | n + 1, h => by
    unfold cnt
    rw [cnt_congr n (fun x hx => h x (by omega)), h n (by omega)]
theorem cnt_add (f : Nat → Bool) (a : Nat) : ∀ b, cnt f (a + b) = cnt f a + cnt (fun x => f (a + x)) b
  | 0 => by simp [cnt]
  | b + 1 => by
    show cnt f (a + b) + _ = _
    rw [cnt_add f a b]; simp [cnt]; omega
theorem cnt_period {f : Nat → Bool} {m : Nat} (h : ∀ x, f (m + x) = f x) : ∀ k, cnt f (k * m) = k * cnt f m
  | 0 => by simp [cnt]
  | k + 1 => by
    rw [show (k + 1) * m = m + k * m by rw [Nat.succ_mul]; omega, cnt_add, cnt_congr (k * m) (fun x _ => h x), cnt_period h k, Nat.succ_mul]; omega
theorem cnt_split (f g : Nat → Bool) : ∀ n, cnt f n = cnt (fun x => f x && g x) n + cnt (fun x => f x && !g x) n
  | 0 => rfl
  | n + 1 => by
    unfold cnt
    rw [cnt_split f g n]
    cases f n <;> cases g n <;> simp <;> omega
theorem cnt_zero {f : Nat → Bool} : ∀ n, (∀ x, x < n → f x = false) → cnt f n = 0
  | 0, _ => rfl
  | n + 1, h => by
    unfold cnt
    rw [cnt_zero n (fun x hx => h x (by omega)), h n (by omega)]; rfl
theorem cnt_mult {p : Nat} (hp : 0 < p) (f : Nat → Bool) : ∀ m, cnt (fun x => f x && (x % p == 0)) (p * m) = cnt (fun y => f (p * y)) m
  | 0 => by simp [cnt]
  | m + 1 => by
    rw [Nat.mul_succ, cnt_add, cnt_mult hp f m]
    obtain ⟨q, rfl⟩ : ∃ q, p = 1 + q := ⟨p - 1, by omega⟩
    rw [cnt_add]
    have h0 : cnt (fun x => f ((1 + q) * m + (1 + x)) && (((1 + q) * m + (1 + x)) % (1 + q) == 0)) q = 0 := by
      apply cnt_zero
      intro x hx
      have : ((1 + q) * m + (1 + x)) % (1 + q) = 1 + x := by
        rw [Nat.mul_add_mod, Nat.mod_eq_of_lt (by omega)]
      rw [this]; simp
    rw [h0]
    simp [cnt]
theorem phi_cnt (m : Nat) : phi m = cnt (fun x => Nat.gcd m x == 1) m := cnt_eq _ m
theorem gcd_shift (m x : Nat) : Nat.gcd m (m + x) = Nat.gcd m x := by
  rw [Nat.gcd_comm, Nat.add_comm, Nat.gcd_add_self_left, Nat.gcd_comm]
theorem cnt_cop (m k : Nat) : cnt (fun x => Nat.gcd m x == 1) (k * m) = k * phi m := by
  rw [phi_cnt]
  exact cnt_period (fun x => by rw [gcd_shift]) k
theorem phi_dvd {p m : Nat} (hp : Pr p) (h : p ∣ m) : phi (p * m) = p * phi m := by
  rw [← cnt_cop, phi_cnt]
  apply cnt_congr
  intro x _
  have : Nat.gcd (p * m) x = 1 ↔ Nat.gcd m x = 1 := by
    constructor
    · intro e
      exact Nat.Coprime.coprime_dvd_left ⟨p, Nat.mul_comm _ _⟩ e
    · intro e
      refine Nat.Coprime.mul_left ?_ e
      exact Nat.Coprime.coprime_dvd_left h e
  by_cases e : Nat.gcd m x = 1
  · rw [this.2 e, e]
  · have e' := fun h => e (this.1 h)
    rw [show (Nat.gcd (p * m) x == 1) = false by simpa using e', show (Nat.gcd m x == 1) = false by simpa using e]
theorem phi_ndvd {p m : Nat} (hp : Pr p) (h : ¬ p ∣ m) : phi (p * m) + phi m = p * phi m := by
  rw [← cnt_cop, cnt_split _ (fun x => x % p == 0), cnt_mult hp.pos (fun x => Nat.gcd m x == 1) m, phi_cnt (p * m)]
  have e1 : cnt (fun y => Nat.gcd m (p * y) == 1) m = phi m := by
    rw [phi_cnt]
    apply cnt_congr
    intro y _
    have hc : Nat.Coprime p m := hp.cop h
    rw [Nat.Coprime.gcd_mul_left_cancel_right y hc]
  rw [e1, Nat.add_comm]
  congr 1
  apply cnt_congr
  intro x _
  by_cases hx : p ∣ x
  · have e2 : Nat.gcd (p * m) x ≠ 1 := by
      intro e
      have h1 : p ∣ Nat.gcd (p * m) x := Nat.dvd_gcd ⟨m, rfl⟩ hx
      rw [e] at h1
      have := Nat.le_of_dvd (by omega) h1
      have := hp.1
      omega
    rw [show (Nat.gcd (p * m) x == 1) = false by simpa using e2, Nat.mod_eq_zero_of_dvd hx]; simp
  · have e2 : (x % p == 0) = false := by
      simp; intro e; exact hx (Nat.dvd_of_mod_eq_zero e)
    have hc : Nat.Coprime p x := hp.cop hx
    rw [e2]
    simp only [Bool.not_false, Bool.and_true]
    rw [Nat.Coprime.gcd_mul_left_cancel m hc]
theorem phi_ndvd' {p m : Nat} (hp : Pr p) (h : ¬ p ∣ m) : phi (p * m) = (p - 1) * phi m := by
  have := phi_ndvd hp h
  rw [Nat.sub_mul]; omega
theorem phi_pow {p m : Nat} (hp : Pr p) (h : ¬ p ∣ m) : ∀ k, phi (p ^ (k + 1) * m) = p ^ k * (p - 1) * phi m
  | 0 => by rw [Nat.pow_one, phi_ndvd' hp h]; simp
  | k + 1 => by
    rw [show p ^ (k + 1 + 1) * m = p * (p ^ (k + 1) * m) by rw [Nat.pow_succ p (k + 1)]; ac_rfl, phi_dvd hp ⟨p ^ k * m, by rw [Nat.pow_succ]; ac_rfl⟩, phi_pow hp h k, Nat.pow_succ p k]
    ac_rfl
theorem phi_one : phi 1 = 1 := rfl
theorem phi_pos {n : Nat} (h : 0 < n) : 0 < phi n := by
  by_cases h1 : n = 1
  · subst h1; decide
  · unfold phi U
    apply List.length_pos_of_mem (a := 1)
    simp; omega
theorem phi_le (n : Nat) : phi n ≤ n := by
  unfold phi U
  have := List.length_filter_le (fun x => Nat.gcd n x == 1) (List.range n)
  simpa using this
/-- as the program reckons it -/
def phf (X : Nat) (l : List (Nat × Nat)) : Nat := l.foldl (fun x q => x / q.1 * (q.1 - 1)) X
theorem phf_snoc (X : Nat) (l : List (Nat × Nat)) (q : Nat × Nat) : phf X (l ++ [q]) = phf X l / q.1 * (q.1 - 1) := by simp [phf]
theorem phf_le (X : Nat) : ∀ l : List (Nat × Nat), phf X l ≤ X := by
  intro l
  induction l generalizing X with
  | nil => exact Nat.le_refl X
  | cons q t ih =>
    show phf (X / q.1 * (q.1 - 1)) t ≤ X
    refine Nat.le_trans (ih _) (Nat.le_trans (Nat.mul_le_mul_left _ (Nat.sub_le q.1 1)) (Nat.div_mul_le_self X q.1))
theorem phf_fac {b n : Nat} {l : List (Nat × Nat)} (h : FacL b n l) : ∀ c, phf (c * n) l = c * phi n := by
  induction l generalizing b n with
  | nil => intro c; have : n = 1 := h; subst this; rfl
  | cons q t ih =>
    intro c
    obtain ⟨h1, h2, h3, m, h4, h5, h6⟩ := h
    obtain ⟨k, hk⟩ : ∃ k, q.2 = k + 1 := ⟨q.2 - 1, by omega⟩
    rw [hk] at h4
    show phf (c * n / q.1 * (q.1 - 1)) t = c * phi n
    have e : c * n / q.1 * (q.1 - 1) = (c * q.1 ^ k * (q.1 - 1)) * m := by
      rw [h4, show c * (q.1 ^ (k + 1) * m) = (c * q.1 ^ k * m) * q.1 by rw [Nat.pow_succ]; ac_rfl, Nat.mul_div_cancel _ h2.pos]
      ac_rfl
    rw [e, ih h6, h4, phi_pow h2 h5 k]
    ac_rfl
theorem phf_all {n : Nat} (h : 0 < n) : phf n (fac n) = phi n := by
  have := phf_fac (fac_spec h) 1
  simpa using this
/-- the product of two -/
theorem phi_mul (b : Nat) (hb : 0 < b) : ∀ a : Nat, 0 < a → (Nat.gcd a b = 1 → phi (a * b) = phi a * phi b) ∧ (Nat.gcd a b ≠ 1 → phi a * phi b < phi (a * b)) := by
  intro a
  induction a using Nat.strongRecOn with
  | ind a ih =>
    intro ha
    by_cases h1 : a = 1
    · subst h1
      refine ⟨fun _ => by rw [phi_one]; simp, fun h => absurd (Nat.gcd_one_left b) h⟩
    · obtain ⟨p, hp, k, rfl⟩ := exists_prime a (by omega)
      have h2 := hp.1
      have hk : 0 < k := Nat.pos_of_ne_zero (by rintro rfl; simp at ha)
      obtain ⟨i1, i2⟩ := ih k (by have := Nat.mul_le_mul_right k h2; omega) hk
      have hpk := phi_pos hk
      have hpb := phi_pos hb
      by_cases hd : p ∣ k
      · have hg : Nat.gcd (p * k) b = 1 ↔ Nat.gcd k b = 1 := by
          constructor
          · intro e; exact Nat.Coprime.coprime_dvd_left ⟨p, Nat.mul_comm _ _⟩ e
          · intro e; exact Nat.Coprime.mul_left (Nat.Coprime.coprime_dvd_left hd e) e
        rw [Nat.mul_assoc, phi_dvd hp hd, phi_dvd hp (Nat.dvd_trans hd ⟨b, rfl⟩), Nat.mul_assoc]
        refine ⟨fun e => by rw [i1 (hg.1 e)], fun e => ?_⟩
        exact Nat.mul_lt_mul_of_pos_left (i2 (fun h => e (hg.2 h))) hp.pos
      · have hw : phi k * phi b ≤ phi (k * b) := by
          by_cases e : Nat.gcd k b = 1
          · rw [i1 e]; exact Nat.le_refl _
          · exact Nat.le_of_lt (i2 e)
        by_cases hb2 : p ∣ b
        · have hg : Nat.gcd (p * k) b ≠ 1 := by
            intro e
            have h3 : p ∣ Nat.gcd (p * k) b := Nat.dvd_gcd ⟨k, rfl⟩ hb2
            rw [e] at h3
            have := Nat.le_of_dvd (by omega) h3
            omega
          rw [Nat.mul_assoc, phi_ndvd' hp hd, phi_dvd hp (Nat.dvd_trans hb2 ⟨k, Nat.mul_comm _ _⟩), Nat.mul_assoc]
          refine ⟨fun e => absurd e hg, fun _ => ?_⟩
          have hpos : 0 < phi k * phi b := Nat.mul_pos hpk hpb
          calc (p - 1) * (phi k * phi b) < p * (phi k * phi b) := Nat.mul_lt_mul_of_pos_right (by omega) hpos
            _ ≤ p * phi (k * b) := Nat.mul_le_mul_left p hw
        · have hpkb : ¬ p ∣ k * b := fun h => (hp.dvd_mul h).elim hd hb2
          have hg : Nat.gcd (p * k) b = 1 ↔ Nat.gcd k b = 1 := by
            rw [Nat.Coprime.gcd_mul_left_cancel k (hp.cop hb2)]
          rw [Nat.mul_assoc, phi_ndvd' hp hd, phi_ndvd' hp hpkb, Nat.mul_assoc]
          refine ⟨fun e => by rw [i1 (hg.1 e)], fun e => ?_⟩
          exact Nat.mul_lt_mul_of_pos_left (i2 (fun h => e (hg.2 h))) (by omega)
end Go.Proofs.Ytkodhpjmmiapaaa.M
