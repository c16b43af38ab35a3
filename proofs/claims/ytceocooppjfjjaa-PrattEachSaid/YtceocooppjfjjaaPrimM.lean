/- Plain: a prime has a primitive root. -/
import Derived.Test.YtceocooppjfjjaaOrdM
import Derived.Test.YtceocooppjfjjaaRtM
namespace Go.Proofs.Ytceocooppjfjjaa.M
set_option linter.unusedVariables false
set_option linter.unusedSimpArgs false
theorem exists_min {P : Nat → Prop} (h : ∃ n, P n) : ∃ n, P n ∧ ∀ m, m < n → ¬ P m := by
  obtain ⟨n, hn⟩ := h
  induction n using Nat.strongRecOn with
  | ind n ih =>
    by_cases hm : ∃ m, m < n ∧ P m
    · obtain ⟨m, h1, h2⟩ := hm
      exact ih m h1 h2
    · exact ⟨n, hn, fun m h1 h2 => hm ⟨m, h1, h2⟩⟩
theorem exists_max {P : Nat → Prop} (h : ∃ n, P n) (B : Nat) (hB : ∀ n, P n → n ≤ B) : ∃ n, P n ∧ ∀ m, P m → m ≤ n := by
  obtain ⟨k, ⟨n, hn, rfl⟩, h2⟩ := exists_min (P := fun k => ∃ n, P n ∧ k = B - n) (by obtain ⟨n, hn⟩ := h; exact ⟨_, n, hn, rfl⟩)
  refine ⟨n, hn, fun m hm => ?_⟩
  rcases Nat.lt_or_ge n m with h3 | h3
  · exact absurd ⟨m, hm, rfl⟩ (h2 (B - m) (by have := hB m hm; omega))
  · exact h3
theorem exists_ord {a m : Int} (h : ∃ k, 0 < k ∧ One a m k) : ∃ k, IsOrd a m k := by
  obtain ⟨k, ⟨h1, h2⟩, h3⟩ := exists_min h
  refine ⟨k, h1, h2, fun j hj => ?_⟩
  have hg := One.gcd k j h2 hj
  have g1 : 0 < Nat.gcd k j := Nat.gcd_pos_of_pos_left _ h1
  have g2 : Nat.gcd k j ≤ k := Nat.le_of_dvd h1 (Nat.gcd_dvd_left k j)
  rcases Nat.lt_or_ge (Nat.gcd k j) k with h4 | h4
  · exact absurd ⟨g1, hg⟩ (h3 _ h4)
  · have e : Nat.gcd k j = k := by omega
    rw [← e]; exact Nat.gcd_dvd_right k j
/-- orders that have no common part multiply -/
theorem IsOrd.mul {x y m : Int} {k j : Nat} (hx : IsOrd x m k) (hy : IsOrd y m j) (hc : Nat.Coprime k j) : IsOrd (x * y) m (k * j) := by
  have both : ∀ {u v : Int} {n : Nat}, One u m n → One v m n → One (u * v) m n := fun {u v n} h1 h2 => by
    unfold One at h1 h2 ⊢
    rw [Int.mul_pow, Int.mul_emod, h1, h2, ← Int.mul_emod, Int.mul_one]
  have part : ∀ {u v : Int} {n : Nat}, One (u * v) m n → One v m n → One u m n := fun {u v n} h1 h2 => by
    unfold One at h1 h2 ⊢
    rw [Int.mul_pow, Int.mul_emod, h2, ← Int.mul_emod, Int.mul_one] at h1
    exact h1
  refine ⟨Nat.mul_pos hx.1 hy.1, both (hx.2.1.mul j) (by rw [Nat.mul_comm]; exact hy.2.1.mul k), fun n hn => ?_⟩
  refine hc.mul_dvd_of_dvd_of_dvd ?_ ?_
  · have h1 : One x m (n * j) := part (hn.mul j) (by rw [Nat.mul_comm]; exact hy.2.1.mul n)
    exact hc.dvd_of_dvd_mul_right (hx.2.2 _ h1)
  · have h1 : One y m (n * k) := part (v := x) (by rw [Int.mul_comm]; exact hn.mul k) (by rw [Nat.mul_comm]; exact hx.2.1.mul n)
    exact hc.symm.dvd_of_dvd_mul_right (hy.2.2 _ h1)
theorem IsOrd.pow {x m : Int} {d e : Nat} (h : IsOrd x m (d * e)) : IsOrd (x ^ d) m e := by
  have h0 := h.1
  have d0 : 0 < d := Nat.pos_of_mul_pos_right h0
  have e0 : 0 < e := Nat.pos_of_mul_pos_left h0
  have iff : ∀ n, One (x ^ d) m n ↔ One x m (d * n) := fun n => by unfold One; rw [Int.pow_mul]
  exact ⟨e0, (iff e).2 h.2.1, fun n hn => Nat.dvd_of_mul_dvd_mul_left d0 (h.2.2 _ ((iff n).1 hn))⟩
/-- a number without a prime, times the prime's powers -/
theorem split_prime {q : Nat} (hq : 2 ≤ q) : ∀ n : Nat, 0 < n → ∃ a u, n = q ^ a * u ∧ ¬ q ∣ u := by
  intro n
  induction n using Nat.strongRecOn with
  | ind n ih =>
    intro hn
    by_cases h : q ∣ n
    · obtain ⟨c, rfl⟩ := h
      have c0 : 0 < c := Nat.pos_of_mul_pos_left hn
      obtain ⟨a, u, h1, h2⟩ := ih c (by have := Nat.mul_le_mul_right c hq; omega) c0
      exact ⟨a + 1, u, by rw [Nat.pow_succ, h1, Nat.mul_comm (q ^ a) q, Nat.mul_assoc], h2⟩
    · exact ⟨0, n, by simp, h⟩
theorem Pr.copr {q u : Nat} (hq : Pr q) (h : ¬ q ∣ u) : Nat.Coprime q u := by
  rcases hq.2 _ (Nat.gcd_dvd_left q u) with e | e
  · exact e
  · exact absurd (by have := Nat.gcd_dvd_right q u; rwa [e] at this) h
/-- two orders, of which one does not divide the other: there is a greater one -/
theorem greater {x y m : Int} {o r : Nat} (hx : IsOrd x m o) (hy : IsOrd y m r) (h : ¬ r ∣ o) : ∃ i j k : Nat, o < k ∧ IsOrd (x ^ i * y ^ j) m k := by
  obtain ⟨c, hc⟩ := Nat.gcd_dvd_left r o
  obtain ⟨d, hd⟩ := Nat.gcd_dvd_right r o
  have r0 := hy.1
  have c2 : 2 ≤ c := by
    rcases Nat.lt_or_ge c 2 with h1 | h1
    · exfalso
      have : c = 0 ∨ c = 1 := by omega
      rcases this with rfl | rfl
      · rw [Nat.mul_zero] at hc; omega
      · rw [Nat.mul_one] at hc
        exact h (by rw [hc]; exact Nat.gcd_dvd_right r o)
    · exact h1
  obtain ⟨q, hq, hqc⟩ := exists_prime c c2
  have q2 := hq.1
  obtain ⟨a, u, h1, h2⟩ := split_prime q2 o hx.1
  obtain ⟨b, v, h3, h4⟩ := split_prime q2 r r0
  have hab : a < b := by
    rcases Nat.lt_or_ge a b with h5 | h5
    · exact h5
    · exfalso
      have d1 : q ^ b ∣ o := by rw [h1]; exact Nat.dvd_trans (Nat.pow_dvd_pow q h5) (Nat.dvd_mul_right _ _)
      have d2 : q ^ b ∣ r := by rw [h3]; exact Nat.dvd_mul_right _ _
      obtain ⟨w, hw⟩ := Nat.dvd_gcd d2 d1
      have e : q ^ b * v = q ^ b * (w * c) := by rw [← h3, ← Nat.mul_assoc, ← hw]; exact hc
      have e2 := Nat.eq_of_mul_eq_mul_left (Nat.pow_pos (by omega)) e
      exact h4 (by rw [e2]; exact Nat.dvd_trans hqc (Nat.dvd_mul_left _ _))
  have u0 : 0 < u := by
    rcases Nat.eq_zero_or_pos u with e | e
    · subst e; exact absurd (Nat.dvd_zero q) h2
    · exact e
  have o1 : IsOrd (x ^ q ^ a) m u := IsOrd.pow (by rw [← h1]; exact hx)
  have o2 : IsOrd (y ^ v) m (q ^ b) := IsOrd.pow (by rw [Nat.mul_comm, ← h3]; exact hy)
  refine ⟨q ^ a, v, u * q ^ b, ?_, o1.mul o2 ((hq.copr h2).symm.pow_right b)⟩
  have e1 : q ^ a * 2 ≤ q ^ b := by
    have e3 := Nat.pow_le_pow_right (show 0 < q by omega) (show a + 1 ≤ b by omega)
    have e4 := Nat.mul_le_mul_left (q ^ a) q2
    rw [Nat.pow_succ] at e3
    omega
  have e2 := Nat.mul_le_mul_left u e1
  have e5 : u * (q ^ a * 2) = o * 2 := by rw [h1, ← Nat.mul_assoc, Nat.mul_comm u]
  have := hx.1
  omega
theorem one_mods {a m : Int} {k : Nat} : One (a % m) m k ↔ One a m k := by unfold One; rw [emod_pow]
theorem isOrd_mods {a m : Int} {k : Nat} : IsOrd (a % m) m k ↔ IsOrd a m k := by
  unfold IsOrd
  simp only [one_mods]
theorem ord_ex {p : Nat} (hp : Pr p) {a : Int} (ha : ¬ (p : Int) ∣ a) : One a p (p - 1) := by
  have h2 := hp.1
  show a ^ (p - 1) % (p : Int) = 1 % p
  rw [fermat_int1 hp ha]
  exact (Int.emod_eq_of_lt (by omega) (by omega)).symm
/-- a primitive root -/
theorem prim_root {p : Nat} (hp : Pr p) : ∃ g : Int, 1 ≤ g ∧ g < p ∧ IsOrd g p (p - 1) := by
  have h2 := hp.1
  have hone : One (1 : Int) p 1 := by simp [One]
  obtain ⟨o, ⟨g, hg, ho⟩, hmax⟩ := exists_max (P := fun o => ∃ g : Int, ¬ (p : Int) ∣ g ∧ IsOrd g p o)
    ⟨1, 1, fun h => by have := Int.le_of_dvd (by decide) h; omega, by decide, hone, fun j _ => Nat.one_dvd j⟩ (p - 1)
    (by rintro n ⟨g, hg, ho⟩; exact Nat.le_of_dvd (by omega) (ho.2.2 _ (ord_ex hp hg)))
  have npow : ∀ {x : Int} (n : Nat), ¬ (p : Int) ∣ x → ¬ (p : Int) ∣ x ^ n := fun {x} n hx => by
    induction n with
    | zero => intro h; have := Int.le_of_dvd (by decide) (by simpa using h : (p : Int) ∣ 1); omega
    | succ n ih =>
      intro h
      rw [Int.pow_succ] at h
      rcases hp.dvd_mul_int h with h | h
      · exact ih h
      · exact hx h
  have hall : ∀ x : Nat, 1 ≤ x → x < p → (x : Int) ^ o % (p : Int) = 1 % p := fun x h3 h4 => by
    have hx : ¬ (p : Int) ∣ x := fun h => by have := Int.le_of_dvd (by omega) h; omega
    obtain ⟨r, hr⟩ := exists_ord ⟨p - 1, by omega, ord_ex hp hx⟩
    by_cases hd : r ∣ o
    · exact hr.2.1.dvd hd
    · obtain ⟨i, j, k, h5, h6⟩ := greater ho hr hd
      have := hmax k ⟨_, fun h => by
        rcases hp.dvd_mul_int h with h | h
        · exact npow i hg h
        · exact npow j hx h, h6⟩
      omega
  have hc := Rt.ones_le hp ho.1
  have hc2 := Rt.cnt_one (f := fun _ => true) (g := fun x : Nat => (x : Int) ^ o % (p : Int) == 1 % p) (c := 0) (n := p) (fun i hi _ => by
    rcases Nat.eq_zero_or_pos i with h | h
    · exact .inl h
    · exact .inr (by simpa using hall i h hi))
  rw [Rt.cnt_all (fun _ _ => rfl), if_pos (by omega)] at hc2
  have e : o = p - 1 := by
    have := Nat.le_of_dvd (by omega) (ho.2.2 _ (ord_ex hp hg))
    omega
  subst e
  have g1 := Int.emod_nonneg g (show (p : Int) ≠ 0 by omega)
  have g2 := Int.emod_lt_of_pos g (show (0 : Int) < p by omega)
  refine ⟨g % p, ?_, g2, isOrd_mods.2 ho⟩
  rcases Decidable.em (0 < g % p) with h | h
  · omega
  · exact absurd (Int.dvd_of_emod_eq_zero (by omega)) hg
/-- every number is a power of it -/
theorem prim_all {p : Nat} (hp : Pr p) {g : Int} (ho : IsOrd g p (p - 1)) {a : Int} (ha : ¬ (p : Int) ∣ a) : ∃ e : Nat, e < p - 1 ∧ g ^ e % (p : Int) = a % p := by
  have h2 := hp.1
  have hg : ¬ (p : Int) ∣ g := fun h => by
    have h1 := ho.2.1
    obtain ⟨k, hk⟩ : ∃ k, p - 1 = k + 1 := ⟨p - 2, by omega⟩
    unfold One at h1
    rw [hk, Int.pow_succ, Int.emod_eq_zero_of_dvd (Int.dvd_trans h (Int.dvd_mul_left _ _)), Int.emod_eq_of_lt (by omega) (by omega)] at h1
    omega
  have npow : ∀ (n : Nat), ¬ (p : Int) ∣ g ^ n := fun n => by
    induction n with
    | zero => intro h; have := Int.le_of_dvd (by decide) (by simpa using h : (p : Int) ∣ 1); omega
    | succ n ih =>
      intro h
      rw [Int.pow_succ] at h
      rcases hp.dvd_mul_int h with h | h
      · exact ih h
      · exact hg h
  have inj : ∀ i j : Nat, i < j → j < p - 1 → g ^ i % (p : Int) ≠ g ^ j % p := fun i j h1 h3 h => by
    have hd : (p : Int) ∣ g ^ i * (g ^ (j - i) - 1) := by
      rw [Int.mul_sub, ← Int.pow_add, Nat.add_sub_cancel' (Nat.le_of_lt h1), Int.mul_one]
      exact Int.dvd_of_emod_eq_zero (Int.emod_eq_emod_iff_emod_sub_eq_zero.1 h.symm)
    rcases hp.dvd_mul_int hd with h4 | h4
    · exact npow i h4
    · have := Nat.le_of_dvd (by omega) (ho.2.2 _ (one_of_dvd h4))
      omega
  by_cases hex : ∃ e : Nat, e < p - 1 ∧ g ^ e % (p : Int) = a % p
  · exact hex
  · exfalso
    have lst : ((List.range (p - 1)).map fun i => (g ^ i % (p : Int)).toNat).Nodup := nodup_map _ _ List.nodup_range fun x hx y hy h => by
      have k1 := Int.emod_nonneg (g ^ x) (show (p : Int) ≠ 0 by omega)
      have k2 := Int.emod_nonneg (g ^ y) (show (p : Int) ≠ 0 by omega)
      rw [List.mem_range] at hx hy
      rcases Nat.lt_trichotomy x y with h1 | h1 | h1
      · exact absurd (by omega) (inj x y h1 hy)
      · exact h1
      · exact absurd (by omega) (inj y x h1 hx)
    have a1 := Int.emod_nonneg a (show (p : Int) ≠ 0 by omega)
    have a2 := Int.emod_lt_of_pos a (show (0 : Int) < p by omega)
    have a3 : a % (p : Int) ≠ 0 := fun h => ha (Int.dvd_of_emod_eq_zero h)
    have big : (0 :: (a % (p : Int)).toNat :: (List.range (p - 1)).map fun i => (g ^ i % (p : Int)).toNat).Nodup := by
      refine List.nodup_cons.2 ⟨?_, List.nodup_cons.2 ⟨?_, lst⟩⟩
      · intro h
        rcases List.mem_cons.1 h with h | h
        · omega
        · obtain ⟨i, hi, h⟩ := List.mem_map.1 h
          have k1 := Int.emod_nonneg (g ^ i) (show (p : Int) ≠ 0 by omega)
          exact npow i (Int.dvd_of_emod_eq_zero (by omega))
      · intro h
        obtain ⟨i, hi, h⟩ := List.mem_map.1 h
        have k1 := Int.emod_nonneg (g ^ i) (show (p : Int) ≠ 0 by omega)
        rw [List.mem_range] at hi
        exact hex ⟨i, hi, by omega⟩
    have := length_le_of_inj _ (List.range p) big fun x hx => by
      rw [List.mem_range]
      rcases List.mem_cons.1 hx with h | h
      · omega
      · rcases List.mem_cons.1 h with h | h
        · omega
        · obtain ⟨i, hi, h⟩ := List.mem_map.1 h
          have k2 := Int.emod_lt_of_pos (g ^ i) (show (0 : Int) < p by omega)
          have k1 := Int.emod_nonneg (g ^ i) (show (p : Int) ≠ 0 by omega)
          omega
    simp at this
    omega
end Go.Proofs.Ytceocooppjfjjaa.M
