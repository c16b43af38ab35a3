/- Plain number theory: primes, products of lists, units modulo m, Euler's theorem, Fermat's little theorem, Wilson's theorem. -/
namespace Go.Proofs.Ytkodhpjmmiapaaa.M

/-- a prime number -/
def Pr (p : Nat) : Prop := 2 ≤ p ∧ ∀ d, d ∣ p → d = 1 ∨ d = p

theorem Pr.pos {p : Nat} (h : Pr p) : 0 < p := by have := h.1; omega
theorem Pr.cop {p a : Nat} (h : Pr p) (ha : ¬ p ∣ a) : Nat.Coprime p a := by
  rcases h.2 _ (Nat.gcd_dvd_left p a) with e | e
  · exact e
  · exact absurd (e ▸ Nat.gcd_dvd_right p a) ha
theorem Pr.dvd_mul {p a b : Nat} (h : Pr p) (hd : p ∣ a * b) : p ∣ a ∨ p ∣ b := by
  by_cases ha : p ∣ a
  · exact .inl ha
  · exact .inr ((h.cop ha).dvd_of_dvd_mul_left hd)
theorem Pr.dvd_pow {p a : Nat} (h : Pr p) : ∀ {k : Nat}, p ∣ a ^ k → p ∣ a
  | 0, hd => by
    have h1 := h.1
    rw [Nat.pow_zero] at hd
    have := Nat.le_of_dvd (by omega) hd
    omega
  | k + 1, hd => by
    rw [Nat.pow_succ] at hd
    rcases h.dvd_mul hd with h1 | h1
    · exact h.dvd_pow h1
    · exact h1
theorem Pr.eq_of_dvd {p q : Nat} (hp : Pr p) (hq : Pr q) (hd : p ∣ q) : p = q := by
  rcases hq.2 p hd with e | e
  · have := hp.1; omega
  · exact e
theorem Pr.cop_of_lt {p a : Nat} (h : Pr p) (h0 : 0 < a) (h1 : a < p) : Nat.Coprime p a :=
  h.cop fun hd => by have := Nat.le_of_dvd h0 hd; omega
theorem Pr.cop_iff {p a : Nat} (h : Pr p) : Nat.Coprime p a ↔ ¬ p ∣ a := by
  refine ⟨fun hc hd => ?_, h.cop⟩
  have e : Nat.gcd p a = p := Nat.gcd_eq_left hd
  have := h.1
  unfold Nat.Coprime at hc; omega

theorem exists_prime (n : Nat) (h : 2 ≤ n) : ∃ p, Pr p ∧ p ∣ n := by
  induction n using Nat.strongRecOn with
  | ind n ih =>
    by_cases hp : ∀ d, d ∣ n → d = 1 ∨ d = n
    · exact ⟨n, ⟨h, hp⟩, Nat.dvd_refl n⟩
    · have : ∃ d, d ∣ n ∧ d ≠ 1 ∧ d ≠ n := by
        apply Classical.byContradiction
        intro hn
        apply hp
        intro d hd
        by_cases h1 : d = 1
        · exact .inl h1
        · by_cases h2 : d = n
          · exact .inr h2
          · exact absurd ⟨d, hd, h1, h2⟩ hn
      obtain ⟨d, hd, h1, h2⟩ := this
      have hle := Nat.le_of_dvd (by omega) hd
      have h0 : d ≠ 0 := by rintro rfl; have := Nat.eq_zero_of_zero_dvd hd; omega
      obtain ⟨p, hp, hpd⟩ := ih d (by omega) (by omega)
      exact ⟨p, hp, Nat.dvd_trans hpd hd⟩

theorem Pr.iff_trial (n : Nat) : Pr n ↔ 2 ≤ n ∧ ∀ d, 2 ≤ d → d * d ≤ n → ¬ d ∣ n := by
  constructor
  · rintro ⟨h, hp⟩
    refine ⟨h, fun d hd hdd hdv => ?_⟩
    rcases hp d hdv with e | e
    · omega
    · subst e
      have := Nat.mul_le_mul_left d hd
      omega
  · rintro ⟨h, ht⟩
    refine ⟨h, fun d hd => ?_⟩
    obtain ⟨e, he⟩ := hd
    by_cases h1 : d = 1
    · exact .inl h1
    · by_cases h2 : d = n
      · exact .inr h2
      · exfalso
        have hd0 : d ≠ 0 := by rintro rfl; omega
        have he0 : e ≠ 0 := by rintro rfl; omega
        have he1 : e ≠ 1 := by rintro rfl; omega
        by_cases hde : d ≤ e
        · exact ht d (by omega) (by rw [he]; exact Nat.mul_le_mul_left d hde) ⟨e, he⟩
        · exact ht e (by omega) (by rw [he]; exact Nat.mul_le_mul_right e (by omega)) ⟨d, by rw [he, Nat.mul_comm]⟩

/-! ### lists without repetition -/

theorem perm_of_inj {α : Type} [DecidableEq α] : ∀ (l m : List α), l.Nodup → (∀ x ∈ l, x ∈ m) → m.length ≤ l.length → l.Perm m
  | [], m, _, _, hl => by
    have : m = [] := List.eq_nil_of_length_eq_zero (by simpa using hl)
    subst this; exact List.Perm.refl _
  | x :: t, m, hn, hs, hl => by
    have hx : x ∈ m := hs x (by simp)
    have hp := List.perm_cons_erase hx
    have hn' := List.nodup_cons.1 hn
    refine List.Perm.trans (List.Perm.cons x (perm_of_inj t (m.erase x) hn'.2 ?_ ?_)) hp.symm
    · intro y hy
      have hne : y ≠ x := fun e => hn'.1 (e ▸ hy)
      exact (List.mem_erase_of_ne hne).2 (hs y (by simp [hy]))
    · have := List.length_erase_of_mem hx
      simp at hl; omega
theorem length_le_of_inj {α : Type} [DecidableEq α] : ∀ (l m : List α), l.Nodup → (∀ x ∈ l, x ∈ m) → l.length ≤ m.length
  | [], _, _, _ => by simp
  | x :: t, m, hn, hs => by
    have hx : x ∈ m := hs x (by simp)
    have hn' := List.nodup_cons.1 hn
    have := length_le_of_inj t (m.erase x) hn'.2 (fun y hy => by
      have hne : y ≠ x := fun e => hn'.1 (e ▸ hy)
      exact (List.mem_erase_of_ne hne).2 (hs y (by simp [hy])))
    have h2 := List.length_erase_of_mem hx
    have h3 : 0 < m.length := List.length_pos_of_mem hx
    simp; omega
theorem nodup_map {α β : Type} (f : α → β) : ∀ (l : List α), l.Nodup → (∀ x ∈ l, ∀ y ∈ l, f x = f y → x = y) → (l.map f).Nodup
  | [], _, _ => by simp
  | x :: t, hn, hi => by
    have hn' := List.nodup_cons.1 hn
    rw [List.map_cons, List.nodup_cons]
    refine ⟨fun hm => ?_, nodup_map f t hn'.2 (fun a ha b hb e => hi a (by simp [ha]) b (by simp [hb]) e)⟩
    obtain ⟨y, hy, e⟩ := List.mem_map.1 hm
    have := hi y (by simp [hy]) x (by simp) e
    exact hn'.1 (this ▸ hy)

/-! ### products of lists -/

def prodL (l : List Nat) : Nat := l.foldr (· * ·) 1
@[simp] theorem prodL_nil : prodL [] = 1 := rfl
@[simp] theorem prodL_cons (a : Nat) (l : List Nat) : prodL (a :: l) = a * prodL l := rfl
theorem prodL_perm {l m : List Nat} (h : l.Perm m) : prodL l = prodL m := by
  induction h with
  | nil => rfl
  | cons x _ ih => simp [ih]
  | swap x y l => simp [Nat.mul_left_comm]
  | trans _ _ h1 h2 => exact h1.trans h2
theorem prodL_map_mul_mod (a m : Nat) : ∀ l : List Nat, prodL (l.map fun x => a * x % m) % m = a ^ l.length * prodL l % m
  | [] => by simp
  | x :: t => by
    have ih := prodL_map_mul_mod a m t
    simp only [List.map_cons, prodL_cons, List.length_cons]
    rw [Nat.mul_mod, ih, Nat.mod_mod, ← Nat.mul_mod]
    congr 1
    rw [Nat.pow_succ, Nat.mul_comm (a ^ t.length) a]
    simp only [Nat.mul_assoc, Nat.mul_left_comm]
theorem prodL_cop {m : Nat} : ∀ l : List Nat, (∀ x ∈ l, Nat.Coprime m x) → Nat.Coprime m (prodL l)
  | [], _ => Nat.coprime_one_right m
  | x :: t, h => Nat.Coprime.mul_right (h x (by simp)) (prodL_cop t fun y hy => h y (by simp [hy]))

theorem dvd_sub_of_mod_eq {x y m : Nat} (h : x % m = y % m) : m ∣ x - y :=
  Nat.dvd_of_mod_eq_zero (Nat.sub_mod_eq_zero_of_mod_eq h)
theorem mod_eq_of_dvd_sub {x y m : Nat} (hle : y ≤ x) (h : m ∣ x - y) : x % m = y % m := by
  obtain ⟨k, hk⟩ := h
  have : x = y + m * k := by omega
  rw [this, Nat.add_mul_mod_self_left]
theorem cancel_mod {c x y m : Nat} (hc : Nat.Coprime m c) (h : c * x % m = c * y % m) : x % m = y % m := by
  have key : ∀ x y : Nat, y ≤ x → c * x % m = c * y % m → x % m = y % m := by
    intro x y hle h
    have hd := dvd_sub_of_mod_eq h
    rw [← Nat.mul_sub] at hd
    exact mod_eq_of_dvd_sub hle (hc.dvd_of_dvd_mul_left hd)
  rcases Nat.le_total y x with hle | hle
  · exact key x y hle h
  · exact (key y x hle h.symm).symm

/-! ### units modulo m -/

def U (m : Nat) : List Nat := (List.range m).filter fun x => Nat.gcd m x == 1
def phi (m : Nat) : Nat := (U m).length
theorem mem_U {m x : Nat} : x ∈ U m ↔ x < m ∧ Nat.Coprime m x := by
  simp [U, Nat.Coprime]
theorem U_nodup (m : Nat) : (U m).Nodup := List.Pairwise.filter _ List.nodup_range
theorem gcd_mod' (m x : Nat) : Nat.gcd m (x % m) = Nat.gcd m x := by
  rw [Nat.gcd_comm m (x % m), ← Nat.gcd_rec m x]
theorem cop_mod {m x : Nat} : Nat.Coprime m (x % m) ↔ Nat.Coprime m x := by
  unfold Nat.Coprime; rw [gcd_mod']
theorem U_mul_perm {a m : Nat} (h : Nat.Coprime m a) : ((U m).map fun x => a * x % m).Perm (U m) := by
  apply perm_of_inj
  · refine nodup_map _ _ (U_nodup m) fun x hx y hy e => ?_
    have := cancel_mod h e
    rw [Nat.mod_eq_of_lt (mem_U.1 hx).1, Nat.mod_eq_of_lt (mem_U.1 hy).1] at this
    exact this
  · intro y hy
    obtain ⟨x, hx, rfl⟩ := List.mem_map.1 hy
    have hx := mem_U.1 hx
    exact mem_U.2 ⟨Nat.mod_lt _ (by omega), cop_mod.2 (h.mul_right hx.2)⟩
  · simp
/-- Euler's theorem -/
theorem pow_phi {a m : Nat} (h : Nat.Coprime m a) : a ^ phi m % m = 1 % m := by
  have hp := prodL_perm (U_mul_perm h)
  have hm := prodL_map_mul_mod a m (U m)
  rw [hp] at hm
  have hc : Nat.Coprime m (prodL (U m)) := prodL_cop _ fun x hx => (mem_U.1 hx).2
  have : prodL (U m) * 1 % m = prodL (U m) * a ^ (U m).length % m := by
    rw [Nat.mul_one, Nat.mul_comm (prodL (U m))]; exact hm
  exact (cancel_mod hc this).symm
theorem U_prime {p : Nat} (h : Pr p) : U p = List.range' 1 (p - 1) := by
  have h2 := h.1
  have e : List.range p = 0 :: List.range' 1 (p - 1) := by
    rw [List.range_eq_range']
    obtain ⟨k, rfl⟩ : ∃ k, p = k + 1 := ⟨p - 1, by omega⟩
    rfl
  unfold U
  rw [e, List.filter_cons]
  have h0 : (Nat.gcd p 0 == 1) = false := by simp; omega
  rw [h0]
  simp only [Bool.false_eq_true, if_false]
  rw [List.filter_eq_self]
  intro x hx
  have hx := List.mem_range'_1.1 hx
  simpa using h.cop_of_lt (by omega : 0 < x) (by omega)
theorem phi_prime {p : Nat} (h : Pr p) : phi p = p - 1 := by
  unfold phi; rw [U_prime h]; simp
/-- Fermat's little theorem -/
theorem fermat {p a : Nat} (h : Pr p) (ha : ¬ p ∣ a) : a ^ (p - 1) % p = 1 := by
  have := pow_phi (h.cop ha)
  rw [phi_prime h] at this
  rw [this, Nat.mod_eq_of_lt h.1]
theorem fermat' {p : Nat} (h : Pr p) (a : Nat) : a ^ p % p = a % p := by
  have h2 := h.1
  by_cases ha : p ∣ a
  · have e : p ∣ a ^ p := Nat.dvd_trans ha (by
      obtain ⟨k, hk⟩ : ∃ k, p = k + 1 := ⟨p - 1, by omega⟩
      rw [hk, Nat.pow_succ]; exact ⟨a ^ k, Nat.mul_comm _ _⟩)
    rw [Nat.mod_eq_zero_of_dvd e, Nat.mod_eq_zero_of_dvd ha]
  · have e : a ^ p = a ^ (p - 1) * a := by rw [← Nat.pow_succ]; congr 1; omega
    rw [e, Nat.mul_mod, fermat h ha, Nat.one_mul, Nat.mod_mod]
end Go.Proofs.Ytkodhpjmmiapaaa.M
