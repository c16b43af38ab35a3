/- Plain number theory: Gauss's lemma (Euler's criterion) for Jacobi's symbol at a prime; Fermat for integers; Wilson's theorem. -/
import Derived.Test.YtkodhpjmmiapaaaNum2
namespace Go.Proofs.Ytkodhpjmmiapaaa.M

theorem dvd_prod_sub {α : Type} {n : Int} {f g : α → Int} : ∀ l : List α, (∀ x ∈ l, n ∣ f x - g x) → n ∣ prodI (l.map f) - prodI (l.map g)
  | [], _ => by simp
  | x :: t, h => by
    obtain ⟨k, hk⟩ := h x (by simp)
    obtain ⟨m, hm⟩ := dvd_prod_sub t fun y hy => h y (by simp [hy])
    simp only [List.map_cons, prodI_cons]
    exact ⟨k * prodI (t.map f) + g x * m, by grind⟩
theorem prod_mul_pow (a : Int) : ∀ l : List Nat, prodI (l.map fun x : Nat => a * (x : Int)) = a ^ l.length * prodI (l.map fun x : Nat => (x : Int))
  | [] => by simp
  | x :: t => by
    simp only [List.map_cons, prodI_cons, prod_mul_pow a t, List.length_cons, Int.pow_succ]; grind
theorem Pr.gcd_int {p : Nat} (hp : Pr p) {a : Int} (h : ¬ (p : Int) ∣ a) : Int.gcd (p : Int) a = 1 := by
  have : ¬ p ∣ a.natAbs := fun hd => h (Int.ofNat_dvd_left.2 hd)
  have := hp.cop this
  simpa [Int.gcd] using this
theorem Pr.dvd_mul_int {p : Nat} (hp : Pr p) {a b : Int} (h : (p : Int) ∣ a * b) : (p : Int) ∣ a ∨ (p : Int) ∣ b := by
  by_cases ha : (p : Int) ∣ a
  · exact .inl ha
  · exact .inr (dvd_cancel h (hp.gcd_int ha))
theorem Pr.dvd_prod {p : Nat} (hp : Pr p) : ∀ l : List Nat, (∀ x ∈ l, ¬ (p : Int) ∣ (x : Int)) → ¬ (p : Int) ∣ prodI (l.map fun x : Nat => (x : Int))
  | [], _ => by
    intro h
    have := Int.le_of_dvd (by simp) h
    have := hp.1
    simp at *; omega
  | x :: t, h => by
    simp only [List.map_cons, prodI_cons]
    intro hd
    rcases hp.dvd_mul_int hd with h1 | h1
    · exact h x (by simp) h1
    · exact hp.dvd_prod t (fun y hy => h y (by simp [hy])) h1
/-- Euler's criterion -/
theorem euler_crit {p : Nat} (hp : Pr p) (ho : p % 2 = 1) (a : Int) : (p : Int) ∣ a ^ ((p - 1) / 2) - jac a p := by
  have h2 := hp.1
  by_cases ha : (p : Int) ∣ a
  · have e : jac a p = 0 := by
      rw [jac_zero_iff]
      intro hg
      have h1 : (p : Int) ∣ 1 := by
        have := Int.dvd_coe_gcd ha (Int.dvd_refl (p : Int))
        rwa [hg] at this
      have := Int.le_of_dvd (by omega) h1
      omega
    rw [e, Int.sub_zero]
    obtain ⟨k, hk⟩ : ∃ k, (p - 1) / 2 = k + 1 := ⟨(p - 1) / 2 - 1, by omega⟩
    rw [hk, Int.pow_succ]
    exact Int.dvd_mul_of_dvd_right ha
  · have hg : Int.gcd a p = 1 := by rw [Int.gcd_comm]; exact hp.gcd_int ha
    have hh : (((p : Int) - 1) / 2).toNat = (p - 1) / 2 := by omega
    have hpo : (p : Int) % 2 = 1 := by omega
    have hp0 : (0 : Int) < p := by omega
    have h1 : (p : Int) ∣ prodI ((List.range' 1 (((p : Int) - 1) / 2).toNat).map fun x : Nat => a * (x : Int)) -
        prodI ((List.range' 1 (((p : Int) - 1) / 2).toNat).map fun x : Nat => sg p (a * x) * ar p (a * x)) :=
      dvd_prod_sub _ fun x _ => sg_ar
    rw [prod_mul_pow, prodI_map_mul (fun x : Nat => sg p (a * x)), prod_ar hp0 hpo hg fun z => z, List.length_range', hh] at h1
    have e : jac a p = prodI ((List.range' 1 ((p - 1) / 2)).map fun x : Nat => sg p (a * x)) := by
      unfold jac; rw [if_pos hg, hh]
    rw [← e, ← Int.sub_mul] at h1
    rcases hp.dvd_mul_int h1 with h3 | h3
    · exact h3
    · exfalso
      refine hp.dvd_prod _ (fun x hx hd => ?_) h3
      have := List.mem_range'_1.1 hx
      have := Int.le_of_dvd (by omega) hd
      omega
theorem pow_emod_congr {a b m : Int} (h : a % m = b % m) (k : Nat) : a ^ k % m = b ^ k % m := by
  induction k with
  | zero => simp
  | succ k ih => rw [Int.pow_succ, Int.pow_succ, Int.mul_emod, ih, h, ← Int.mul_emod]
theorem emod_pow (a m : Int) (k : Nat) : (a % m) ^ k % m = a ^ k % m := pow_emod_congr (Int.emod_emod a m) k
theorem natCast_pow_emod (a m k : Nat) : ((a ^ k % m : Nat) : Int) = (a : Int) ^ k % m := by
  rw [Int.natCast_emod, Int.natCast_pow]
/-- Fermat's little theorem for integers -/
theorem fermat_int {p : Nat} (hp : Pr p) (a : Int) : a ^ p % p = a % p := by
  have h2 := hp.1
  have h0 := Int.emod_nonneg a (by omega : (p : Int) ≠ 0)
  obtain ⟨b, hb⟩ := Int.eq_ofNat_of_zero_le h0
  have e : a % p = (b : Int) % p := by rw [← hb, Int.emod_emod]
  rw [pow_emod_congr e, e, ← natCast_pow_emod, fermat' hp, Int.natCast_emod]
theorem fermat_int1 {p : Nat} (hp : Pr p) {a : Int} (ha : ¬ (p : Int) ∣ a) : a ^ (p - 1) % p = 1 := by
  have h2 := hp.1
  have h0 := Int.emod_nonneg a (by omega : (p : Int) ≠ 0)
  obtain ⟨b, hb⟩ := Int.eq_ofNat_of_zero_le h0
  have e : a % p = (b : Int) % p := by rw [← hb, Int.emod_emod]
  have hb' : ¬ p ∣ b := by
    intro hd
    apply ha
    have : (b : Int) % p = 0 := Int.emod_eq_zero_of_dvd (Int.natCast_dvd_natCast.2 hd)
    exact Int.dvd_of_emod_eq_zero (e.trans this)
  rw [pow_emod_congr e, ← natCast_pow_emod, fermat hp hb']; rfl

/-! ### Wilson -/

/-- pairs that cancel: in a list without repetition, closed under a map that is its own inverse and moves all, the product is 1 -/
theorem prod_pairs {p : Nat} (inv : Nat → Nat) : ∀ (k : Nat) (l : List Nat), l.length = k → l.Nodup → (∀ x ∈ l, inv x ∈ l ∧ inv x ≠ x ∧ inv (inv x) = x ∧ x * inv x % p = 1 % p) → prodL l % p = 1 % p := by
  intro k
  induction k using Nat.strongRecOn with
  | ind k ih =>
    intro l hl hn h
    match l, hl, hn, h with
    | [], _, _, _ => rfl
    | x :: t, hl, hn, h =>
      have hx := h x (by simp)
      have hn' := List.nodup_cons.1 hn
      have hit : inv x ∈ t := by
        rcases List.mem_cons.1 hx.1 with e | e
        · exact absurd e hx.2.1
        · exact e
      have hp := List.perm_cons_erase hit
      have hne : (inv x :: t.erase (inv x)).Nodup := hp.nodup hn'.2
      have hne' := List.nodup_cons.1 hne
      have hlen := List.length_erase_of_mem hit
      have hpos := List.length_pos_of_mem hit
      have hrec := ih (t.erase (inv x)).length (by simp at hl; omega) _ rfl hne'.2 (fun y hy => by
        have hyt : y ∈ t := List.mem_of_mem_erase hy
        have hyx : y ≠ x := fun e => hn'.1 (e ▸ hyt)
        have hyi : y ≠ inv x := fun e => hne'.1 (e ▸ hy)
        have hh := h y (by simp [hyt])
        refine ⟨?_, hh.2⟩
        have h1 : inv y ≠ x := fun e => hyi (by rw [← hh.2.2.1, e])
        have h2 : inv y ≠ inv x := fun e => hyx (by rw [← hh.2.2.1, e, hx.2.2.1])
        rcases List.mem_cons.1 hh.1 with e | e
        · exact absurd e h1
        · exact (List.mem_erase_of_ne h2).2 e)
      rw [prodL_cons, prodL_perm hp, prodL_cons, ← Nat.mul_assoc, Nat.mul_mod, hx.2.2.2, hrec, ← Nat.mul_mod, Nat.mul_one]
/-- the inverse modulo a prime, as a power -/
theorem wilson {p : Nat} (hp : Pr p) (h3 : 3 ≤ p) : prodL (List.range' 2 (p - 2)) % p = p - 1 := by
  have hinv : ∀ x, 0 < x → x < p → ∃ y, y < p ∧ 0 < y ∧ x * y % p = 1 := by
    intro x h0 h1
    have hx : ¬ p ∣ x := fun hd => by have := Nat.le_of_dvd h0 hd; omega
    refine ⟨x ^ (p - 2) % p, Nat.mod_lt _ hp.pos, ?_, ?_⟩
    · apply Nat.pos_of_ne_zero
      intro e
      exact hx (hp.dvd_pow (Nat.dvd_of_mod_eq_zero e))
    · rw [Nat.mul_mod, Nat.mod_mod, ← Nat.mul_mod, Nat.mul_comm, ← Nat.pow_succ]
      have : (p - 2).succ = p - 1 := by omega
      rw [this]; exact fermat hp hx
  have hsplit : List.range' 2 (p - 2) = List.range' 2 (p - 3) ++ [p - 1] := by
    have : p - 2 = p - 3 + 1 := by omega
    rw [this, List.range'_1_concat]; congr 2; omega
  have hprod : ∀ l m : List Nat, prodL (l ++ m) = prodL l * prodL m := by
    intro l m; induction l with
    | nil => simp
    | cons x t ih => simp [ih, Nat.mul_assoc]
  rw [hsplit, hprod]
  classical
  let inv : Nat → Nat := fun x => if h : 0 < x ∧ x < p then Classical.choose (hinv x h.1 h.2) else 0
  have hi : ∀ x, 0 < x → x < p → inv x < p ∧ 0 < inv x ∧ x * inv x % p = 1 := by
    intro x h0 h1
    have := Classical.choose_spec (hinv x h0 h1)
    show (if h : 0 < x ∧ x < p then Classical.choose (hinv x h.1 h.2) else 0) < p ∧ _
    simp only [inv, dif_pos (And.intro h0 h1)]
    exact this
  have huniq : ∀ x y z, 0 < x → x < p → y < p → z < p → x * y % p = 1 → x * z % p = 1 → y = z := by
    intro x y z h0 h1 hy hz e1 e2
    have := cancel_mod (hp.cop_of_lt h0 h1) (e1.trans e2.symm)
    rwa [Nat.mod_eq_of_lt hy, Nat.mod_eq_of_lt hz] at this
  have hone : ∀ x, 0 < x → x < p → x * x % p = 1 → x = 1 ∨ x = p - 1 := by
    intro x h0 h1 e
    have hd : p ∣ (x - 1) * (x + 1) := by
      have : (x - 1) * (x + 1) = x * x - 1 := by
        obtain ⟨k, rfl⟩ : ∃ k, x = k + 1 := ⟨x - 1, by omega⟩
        simp; grind
      rw [this]
      exact dvd_sub_of_mod_eq (by rw [e, Nat.mod_eq_of_lt (by omega)])
    rcases hp.dvd_mul hd with h | h
    · left
      rcases Nat.eq_zero_or_pos (x - 1) with h' | h'
      · omega
      · have := Nat.le_of_dvd h' h; omega
    · right
      have := Nat.le_of_dvd (by omega) h; omega
  have := prod_pairs (p := p) inv _ (List.range' 2 (p - 3)) rfl (List.nodup_range' (step := 1)) (fun x hx => by
    have hx := List.mem_range'_1.1 hx
    have h1 := hi x (by omega) (by omega)
    have h2 := hi (inv x) h1.2.1 h1.1
    have hne1 : inv x ≠ 1 := fun e => by
      have := h1.2.2; rw [e, Nat.mul_one, Nat.mod_eq_of_lt (by omega)] at this; omega
    have hne2 : inv x ≠ p - 1 := fun e => by
      have h5 := h1.2.2
      have h6 : (p - 1) * (p - 1) % p = 1 := by
        obtain ⟨k, rfl⟩ : ∃ k, p = k + 2 := ⟨p - 2, by omega⟩
        have : (k + 2 - 1) * (k + 2 - 1) = 1 + (k + 2) * k := by simp; grind
        rw [this, Nat.add_mul_mod_self_left, Nat.mod_eq_of_lt (by omega)]
      rw [e, Nat.mul_comm] at h5
      have := huniq (p - 1) x (p - 1) (by omega) (by omega) (by omega) (by omega) h5 h6
      omega
    refine ⟨List.mem_range'_1.2 (by omega), fun e => ?_, ?_, ?_⟩
    · rw [e] at h1
      rcases hone x (by omega) (by omega) h1.2.2 with h | h <;> omega
    · exact huniq (inv x) _ _ h1.2.1 h1.1 h2.1 (by omega) h2.2.2 (by rw [Nat.mul_comm]; exact h1.2.2)
    · rw [h1.2.2, Nat.mod_eq_of_lt (by omega)])
  rw [Nat.mul_mod, this, Nat.mod_eq_of_lt (by omega : 1 < p)]
  simp
  try rw [Nat.mod_mod, Nat.mod_eq_of_lt (by omega)]
/-- a composite number does not pass -/
theorem wilson_not {n : Nat} (h2 : 2 ≤ n) (hp : ¬ Pr n) : prodL (List.range' 2 (n - 2)) % n ≠ n - 1 := by
  intro h
  obtain ⟨p, pp, hpn⟩ := exists_prime n h2
  have hlt : p < n := by
    rcases Nat.lt_or_ge p n with h | h
    · exact h
    · have := Nat.le_of_dvd (by omega) hpn
      exact absurd (show Pr n by rwa [show n = p by omega]) hp
  have hmem : p ∈ List.range' 2 (n - 2) := List.mem_range'_1.2 ⟨pp.1, by omega⟩
  have hdvd : ∀ l : List Nat, p ∈ l → p ∣ prodL l := by
    intro l; induction l with
    | nil => simp
    | cons x t ih =>
      intro hm
      rcases List.mem_cons.1 hm with e | e
      · subst e; exact ⟨prodL t, rfl⟩
      · exact Nat.dvd_trans (ih e) ⟨x, Nat.mul_comm _ _⟩
  have hd := hdvd _ hmem
  have h3 : p ∣ n - 1 := by
    rw [← h]
    exact (Nat.dvd_mod_iff hpn).2 hd
  have : p ∣ n - (n - 1) := Nat.dvd_sub hpn h3
  have e : n - (n - 1) = 1 := by omega
  rw [e] at this
  have := Nat.le_of_dvd (by omega) this
  have := pp.1
  omega
end Go.Proofs.Ytkodhpjmmiapaaa.M
