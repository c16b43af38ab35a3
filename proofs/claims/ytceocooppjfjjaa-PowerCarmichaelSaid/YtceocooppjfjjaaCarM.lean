/- Plain: some number has Carmichael's lambda as its order. -/
import Derived.Test.YtceocooppjfjjaaPrimM
namespace Go.Proofs.Ytceocooppjfjjaa.M
set_option linter.unusedVariables false
set_option linter.unusedSimpArgs false
/-- triangular numbers -/
def tri : Nat → Int
  | 0 => 0
  | w + 1 => tri w + w
theorem tri_two (w : Nat) : 2 * tri w = (w : Int) * ((w : Int) - 1) := by
  induction w with
  | zero => rfl
  | succ w ih =>
    show 2 * (tri w + w) = _
    rw [Int.mul_add, ih, Int.natCast_add]
    grind
theorem binom (z : Int) (w : Nat) : ∃ r : Int, (1 + z) ^ w = 1 + (w : Int) * z + tri w * (z * z) + z * z * z * r := by
  induction w with
  | zero => exact ⟨0, by simp [tri]⟩
  | succ w ih =>
    obtain ⟨r, hr⟩ := ih
    refine ⟨tri w + r + z * r, ?_⟩
    rw [Int.pow_succ, hr]
    show _ = 1 + ((w + 1 : Nat) : Int) * z + (tri w + w) * (z * z) + z * z * z * (tri w + r + z * r)
    rw [Int.natCast_add]
    grind
theorem lift_step {p : Nat} (hp : Pr p) {e : Nat} (he : (1 ≤ e ∧ p ≠ 2) ∨ (2 ≤ e ∧ p = 2)) {u : Int} (hu : ¬ (p : Int) ∣ u) :
    ∃ v : Int, ¬ (p : Int) ∣ v ∧ (1 + (p : Int) ^ e * u) ^ p = 1 + (p : Int) ^ (e + 1) * v := by
  obtain ⟨f, rfl⟩ : ∃ f, e = f + 1 := ⟨e - 1, by omega⟩
  obtain ⟨P, hP⟩ : ∃ P : Int, (p : Int) ^ f = P := ⟨_, rfl⟩
  rcases he with ⟨h1, h2⟩ | ⟨h1, h2⟩
  · obtain ⟨r, hr⟩ := binom ((p : Int) ^ (f + 1) * u) p
    have hodd : p % 2 = 1 := by
      rcases Nat.mod_two_eq_zero_or_one p with h | h
      · rcases hp.2 2 (Nat.dvd_of_mod_eq_zero h) with h3 | h3 <;> omega
      · exact h
    have ht : tri p = (p : Int) * (((p - 1) / 2 : Nat) : Int) := by
      have h3 := tri_two p
      have h4 : (p : Int) - 1 = 2 * (((p - 1) / 2 : Nat) : Int) := by omega
      rw [h4] at h3
      have h5 : (p : Int) * (2 * (((p - 1) / 2 : Nat) : Int)) = 2 * ((p : Int) * (((p - 1) / 2 : Nat) : Int)) := by ac_rfl
      rw [h5] at h3
      omega
    obtain ⟨H, hH⟩ : ∃ H : Int, (((p - 1) / 2 : Nat) : Int) = H := ⟨_, rfl⟩
    rw [hH] at ht
    refine ⟨u + (p : Int) * (P * (H * (u * u) + P * (u * u * u * r))), fun h => hu ?_, ?_⟩
    · exact (Int.dvd_add_left (Int.dvd_mul_right _ _)).1 h
    · rw [hr, ht, Int.pow_succ (p : Int) (f + 1), Int.pow_succ (p : Int) f, hP]
      grind
  · subst h2
    obtain ⟨g, rfl⟩ : ∃ g, f = g + 1 := ⟨f - 1, by omega⟩
    obtain ⟨Q, hQ⟩ : ∃ Q : Int, ((2 : Nat) : Int) ^ g = Q := ⟨_, rfl⟩
    refine ⟨u + ((2 : Nat) : Int) * (Q * (u * u)), fun h => hu ?_, ?_⟩
    · exact (Int.dvd_add_left (Int.dvd_mul_right _ _)).1 h
    · rw [Int.pow_succ ((2 : Nat) : Int) (g + 1 + 1), Int.pow_succ ((2 : Nat) : Int) (g + 1), Int.pow_succ ((2 : Nat) : Int) g, hQ]
      show (1 + _) ^ 2 = _
      rw [Int.pow_succ, Int.pow_succ, Int.pow_zero]
      grind
theorem lift_pow {p : Nat} (hp : Pr p) {e : Nat} (he : (1 ≤ e ∧ p ≠ 2) ∨ (2 ≤ e ∧ p = 2)) {u : Int} (hu : ¬ (p : Int) ∣ u) (a : Nat) :
    ∃ v : Int, ¬ (p : Int) ∣ v ∧ (1 + (p : Int) ^ e * u) ^ (p ^ a) = 1 + (p : Int) ^ (e + a) * v := by
  induction a with
  | zero => exact ⟨u, hu, by rw [Nat.pow_zero, Int.pow_succ, Int.pow_zero, Int.one_mul]; rfl⟩
  | succ a ih =>
    obtain ⟨v, h1, h2⟩ := ih
    obtain ⟨v', h3, h4⟩ := lift_step hp (e := e + a) (by omega) h1
    exact ⟨v', h3, by rw [Nat.pow_succ, Int.pow_mul, h2, h4]; rfl⟩
theorem lift_mul {p : Nat} (hp : Pr p) {e : Nat} (he : 1 ≤ e) {u : Int} (hu : ¬ (p : Int) ∣ u) {w : Nat} (hw : ¬ p ∣ w) :
    ∃ v : Int, ¬ (p : Int) ∣ v ∧ (1 + (p : Int) ^ e * u) ^ w = 1 + (p : Int) ^ e * v := by
  obtain ⟨f, rfl⟩ : ∃ f, e = f + 1 := ⟨e - 1, by omega⟩
  obtain ⟨P, hP⟩ : ∃ P : Int, (p : Int) ^ f = P := ⟨_, rfl⟩
  obtain ⟨r, hr⟩ := binom ((p : Int) ^ (f + 1) * u) w
  obtain ⟨t, ht⟩ : ∃ t, tri w = t := ⟨_, rfl⟩
  refine ⟨(w : Int) * u + (p : Int) * (P * (t * (u * u) + P * (p * (u * u * u * r)))), fun h => ?_, ?_⟩
  · have h1 := (Int.dvd_add_left (Int.dvd_mul_right _ _)).1 h
    rcases hp.dvd_mul_int h1 with h2 | h2
    · exact hw (Int.natCast_dvd_natCast.1 h2)
    · exact hu h2
  · rw [hr, ht, Int.pow_succ, hP]
    grind
/-- the powers of 1 + p^e u -/
theorem lift_ord {p : Nat} (hp : Pr p) {e : Nat} (he : (1 ≤ e ∧ p ≠ 2) ∨ (2 ≤ e ∧ p = 2)) {u : Int} (hu : ¬ (p : Int) ∣ u) {k o : Nat} (ho : 0 < o) (h : One (1 + (p : Int) ^ e * u) ((p ^ k : Nat) : Int) o) : p ^ (k - e) ∣ o := by
  have p2 := hp.1
  obtain ⟨a, w, h1, h2⟩ := split_prime p2 o ho
  obtain ⟨v, h3, h4⟩ := lift_pow hp he hu a
  obtain ⟨v', h5, h6⟩ := lift_mul hp (e := e + a) (by omega) h3 h2
  have hd := dvd_of_one h
  rw [h1, Int.pow_mul, h4, h6, show 1 + (p : Int) ^ (e + a) * v' - 1 = (p : Int) ^ (e + a) * v' by omega, Int.natCast_pow] at hd
  have hk : k ≤ e + a := by
    rcases Nat.lt_or_ge (e + a) k with h7 | h7
    · exfalso
      have h8 : (p : Int) ^ (e + a + 1) ∣ (p : Int) ^ (e + a) * v' := Int.dvd_trans ⟨(p : Int) ^ (k - (e + a + 1)), by rw [← Int.pow_add]; congr 1; omega⟩ hd
      rw [Int.pow_succ] at h8
      have h9 : (p : Int) ^ (e + a) ≠ 0 := Int.pow_ne_zero (by omega)
      exact h5 (Int.dvd_of_mul_dvd_mul_left h9 h8)
    · exact h7
  rw [h1]
  exact Nat.dvd_trans (Nat.pow_dvd_pow p (by omega)) (Nat.dvd_mul_right _ _)
theorem one_weak {a : Int} {m n : Nat} {o : Nat} (hd : m ∣ n) (h : One a n o) : One a m o :=
  one_of_dvd (Int.dvd_trans (Int.natCast_dvd_natCast.2 hd) (dvd_of_one h))
/-- an exponent of all units of a prime's power is a multiple of lambda there -/
theorem xq_dvd {q : Nat × Nat} (hp : Pr q.1) (hk : 1 ≤ q.2) {o : Nat} (ho : 0 < o) (h : ∀ y : Int, ¬ (q.1 : Int) ∣ y → One y ((q.1 ^ q.2 : Nat) : Int) o) : xq q ∣ o := by
  obtain ⟨p, k⟩ := q
  simp only at hp hk h
  have p2 := hp.1
  have n1 : ¬ (p : Int) ∣ 1 := fun h => by have := Int.le_of_dvd (by decide) h; omega
  by_cases hp2 : p = 2
  · subst hp2
    unfold xq
    simp only
    by_cases h2 : 2 < k
    · rw [if_pos ⟨trivial, h2⟩]
      obtain ⟨j, rfl⟩ : ∃ j, k = j + 3 := ⟨k - 3, by omega⟩
      have := lift_ord hp (e := 2) (.inr ⟨by omega, rfl⟩) n1 ho (h _ (by decide))
      have e : (2 - 1) * 2 ^ (j + 3 - 1) / 2 = 2 ^ (j + 3 - 2) := by
        rw [show j + 3 - 1 = (j + 3 - 2) + 1 by omega, Nat.pow_succ]; omega
      rw [e]; exact this
    · rw [if_neg (by omega)]
      have hc : k = 1 ∨ k = 2 := by omega
      rcases hc with rfl | rfl
      · exact Nat.one_dvd o
      · show 2 ∣ o
        rcases Nat.mod_two_eq_zero_or_one o with h3 | h3
        · exact Nat.dvd_of_mod_eq_zero h3
        · exfalso
          obtain ⟨j, rfl⟩ : ∃ j, o = 2 * j + 1 := ⟨o / 2, by omega⟩
          have h4 := h (-1) (by decide)
          unfold One at h4
          rw [Int.pow_succ, Int.pow_mul, show ((-1 : Int)) ^ 2 = 1 by decide, Int.one_pow] at h4
          exact absurd h4 (by decide)
  · have e : xq (p, k) = (p - 1) * p ^ (k - 1) := by unfold xq; rw [if_neg (by simp [hp2])]
    rw [e]
    obtain ⟨g, g1, g2, g3⟩ := prim_root hp
    have d1 : p - 1 ∣ o := g3.2.2 _ (one_weak ⟨p ^ (k - 1), by rw [← Nat.pow_succ']; congr 1; omega⟩ (h g (fun hd => by have := Int.le_of_dvd (by omega) hd; omega)))
    have d2 := lift_ord hp (e := 1) (.inl ⟨by omega, hp2⟩) n1 ho (h _ (fun hd => by
      rw [Int.pow_one, Int.mul_one] at hd
      exact n1 ((Int.dvd_add_left (Int.dvd_refl _)).1 hd)))
    refine Nat.Coprime.mul_dvd_of_dvd_of_dvd ?_ d1 d2
    refine Nat.Coprime.pow_right _ (Nat.Coprime.symm (hp.copr fun hd => ?_))
    have := Nat.le_of_dvd (by omega) hd
    omega
theorem lamf_all (l : List (Nat × Nat)) (E : Nat) : ∀ L, L ∣ E → (∀ q ∈ l, xq q ∣ E) → lamf L l ∣ E := by
  induction l with
  | nil => intro L h _; exact h
  | cons q t ih =>
    intro L h1 h2
    show lamf (Nat.lcm L (xq q)) t ∣ E
    exact ih _ (Nat.lcm_dvd h1 (h2 q (by simp))) fun y hy => h2 y (by simp [hy])
theorem fac_part {b n : Nat} {l : List (Nat × Nat)} (h : FacL b n l) : ∀ q ∈ l, Pr q.1 ∧ 1 ≤ q.2 ∧ ∃ c, n = q.1 ^ q.2 * c ∧ ¬ q.1 ∣ c := by
  induction l generalizing b n with
  | nil => intro q hq; simp at hq
  | cons x t ih =>
    intro q hq
    obtain ⟨h1, h2, h3, m, h4, h5, h6⟩ := h
    rcases List.mem_cons.1 hq with e | e
    · subst e; exact ⟨h2, h3, m, h4, h5⟩
    · obtain ⟨k1, k2, c, k3, k4⟩ := ih h6 q e
      obtain ⟨_, _, j3, _⟩ := h6.dvd q e
      refine ⟨k1, k2, x.1 ^ x.2 * c, by rw [h4, k3]; ac_rfl, fun hd => ?_⟩
      rcases k1.dvd_mul hd with h7 | h7
      · have h8 := k1.dvd_pow h7
        rcases h2.2 _ h8 with h9 | h9
        · have := k1.1; omega
        · omega
      · exact k4 h7
theorem bezN (a b : Nat) : ∃ x y : Int, x * a + y * b = (Nat.gcd a b : Int) := by
  induction a using Nat.strongRecOn generalizing b with
  | ind a ih =>
    by_cases h : a = 0
    · subst h; exact ⟨0, 1, by simp⟩
    · obtain ⟨x, y, hxy⟩ := ih (b % a) (Nat.mod_lt _ (by omega)) a
      rw [Nat.gcd_rec]
      refine ⟨y - x * ((b / a : Nat) : Int), x, ?_⟩
      rw [← hxy]
      have e : (b : Int) = (a : Int) * ((b / a : Nat) : Int) + ((b % a : Nat) : Int) := by
        rw [← Int.natCast_mul, ← Int.natCast_add, Nat.div_add_mod]
      grind
theorem gcd_of_one {a : Int} {n o : Nat} (ho : 0 < o) (h : One a n o) : Int.gcd a n = 1 := by
  have hd := dvd_of_one h
  have h1 : ((Int.gcd a n : Nat) : Int) ∣ a ^ o - 1 := Int.dvd_trans (Int.gcd_dvd_right _ _) hd
  have h2 : ((Int.gcd a n : Nat) : Int) ∣ a ^ o := by
    obtain ⟨j, rfl⟩ : ∃ j, o = j + 1 := ⟨o - 1, by omega⟩
    rw [Int.pow_succ]
    exact Int.dvd_trans (Int.gcd_dvd_left _ _) (Int.dvd_mul_left _ _)
  have h3 : ((Int.gcd a n : Nat) : Int) ∣ 1 := by
    have := Int.dvd_sub h2 h1
    rwa [show a ^ o - (a ^ o - 1) = 1 by omega] at this
  exact Nat.dvd_one.1 (Int.natCast_dvd_natCast.1 h3)
theorem lam_pos {n : Nat} (h : 0 < n) : 0 < lam n := (lam_prefix h (List.prefix_refl _)).1
theorem one_gcd {a : Int} {n : Nat} (h : ∀ p : Nat, Pr p → p ∣ n → ¬ (p : Int) ∣ a) : Int.gcd a n = 1 := by
  rcases Nat.lt_or_ge (Int.gcd a n) 2 with h1 | h1
  · have h2 : Int.gcd a n = 0 ∨ Int.gcd a n = 1 := by omega
    rcases h2 with h2 | h2
    · exfalso
      rw [Int.gcd_eq_zero_iff] at h2
      exact h 2 ⟨by omega, fun d hd => by have := Nat.le_of_dvd (by omega) hd; have : d = 0 ∨ d = 1 ∨ d = 2 := by omega
                                          rcases this with rfl | rfl | rfl
                                          · simp at hd
                                          · exact .inl rfl
                                          · exact .inr rfl⟩ (by have := h2.2; have e : n = 0 := by omega
                                                                rw [e]; exact Nat.dvd_zero _) (by rw [h2.1]; exact Int.dvd_zero _)
    · exact h2
  · exfalso
    obtain ⟨p, hp, hd⟩ := exists_prime _ h1
    exact h p hp (Nat.dvd_trans hd (Int.natCast_dvd_natCast.1 (Int.gcd_dvd_right a (n : Int)))) (Int.dvd_trans (Int.natCast_dvd_natCast.2 hd) (Int.gcd_dvd_left _ _))
/-- an exponent of all units is a multiple of lambda -/
theorem lam_dvd {n : Nat} (hn : 0 < n) {o : Nat} (ho : 0 < o) (h : ∀ x : Int, Int.gcd x n = 1 → One x n o) : lam n ∣ o := by
  refine lamf_all _ _ 1 (Nat.one_dvd o) fun q hq => ?_
  obtain ⟨h1, h2, c, h3, h4⟩ := fac_part (fac_spec hn) q hq
  refine xq_dvd h1 h2 ho fun y hy => ?_
  obtain ⟨s, t, hst⟩ := bezN (q.1 ^ q.2) c
  have hcop : Nat.gcd (q.1 ^ q.2) c = 1 := Nat.Coprime.pow_left _ (h1.copr h4)
  rw [hcop] at hst
  have ex1 : ((q.1 ^ q.2 : Nat) : Int) ∣ (y * (t * c) + s * ((q.1 ^ q.2 : Nat) : Int)) - y := ⟨s * (1 - y), by
    have : t * c = 1 - s * ((q.1 ^ q.2 : Nat) : Int) := by omega
    rw [this]; grind⟩
  have ex2 : (c : Int) ∣ (y * (t * c) + s * ((q.1 ^ q.2 : Nat) : Int)) - 1 := ⟨t * (y - 1), by
    have : s * ((q.1 ^ q.2 : Nat) : Int) = 1 - t * c := by omega
    rw [this]; grind⟩
  obtain ⟨x, hx⟩ : ∃ x, y * (t * c) + s * ((q.1 ^ q.2 : Nat) : Int) = x := ⟨_, rfl⟩
  rw [hx] at ex1 ex2
  have hqp : (q.1 : Int) ∣ ((q.1 ^ q.2 : Nat) : Int) := Int.natCast_dvd_natCast.2 (by
    obtain ⟨k, hk⟩ : ∃ k, q.2 = k + 1 := ⟨q.2 - 1, by omega⟩
    rw [hk, Nat.pow_succ]; exact Nat.dvd_mul_left _ _)
  have hg : Int.gcd x n = 1 := one_gcd fun p hp hd hda => by
    rw [h3] at hd
    rcases hp.dvd_mul hd with h5 | h5
    · have h6 := hp.dvd_pow h5
      have h7 : p = q.1 := by
        rcases h1.2 _ h6 with h7 | h7
        · have := hp.1; omega
        · exact h7
      subst h7
      have h8 := Int.dvd_sub hda (Int.dvd_trans hqp ex1)
      rw [show x - (x - y) = y by omega] at h8
      exact hy h8
    · have h8 := Int.dvd_sub hda (Int.dvd_trans (Int.natCast_dvd_natCast.2 h5) ex2)
      rw [show x - (x - 1) = 1 by omega] at h8
      have := Int.le_of_dvd (by decide) h8
      have := hp.1
      omega
  have ho2 := one_weak (m := q.1 ^ q.2) ⟨c, h3⟩ (h x hg)
  unfold One at ho2 ⊢
  rw [← ho2]
  exact pow_emod_congr (Int.emod_eq_emod_iff_emod_sub_eq_zero.2 (by
    have := Int.dvd_neg.2 ex1
    rw [show -(x - y) = y - x by omega] at this
    exact Int.emod_eq_zero_of_dvd this)) o
theorem lam_elem {n : Nat} (hn : 0 < n) : ∃ g : Int, 1 ≤ g ∧ g ≤ n ∧ Int.gcd g n = 1 ∧ IsOrd g n (lam n) := by
  obtain ⟨o, ⟨g, ho⟩, hmax⟩ := exists_max (P := fun o => ∃ g : Int, IsOrd g n o)
    ⟨1, 1, by decide, by simp [One], fun j _ => Nat.one_dvd j⟩ (lam n)
    (by rintro k ⟨g, hk⟩; exact Nat.le_of_dvd (lam_pos hn) (hk.2.2 _ (one_lam hn (gcd_of_one hk.1 hk.2.1))))
  have hall : ∀ x : Int, Int.gcd x n = 1 → One x n o := fun x hx => by
    obtain ⟨r, hr⟩ := exists_ord ⟨lam n, lam_pos hn, one_lam hn hx⟩
    by_cases hd : r ∣ o
    · exact hr.2.1.dvd hd
    · obtain ⟨i, j, k, h5, h6⟩ := greater ho hr hd
      have := hmax k ⟨_, h6⟩
      omega
  have e : o = lam n := Nat.dvd_antisymm (ho.2.2 _ (one_lam hn (gcd_of_one ho.1 ho.2.1))) (lam_dvd hn ho.1 hall)
  subst e
  have g1 := Int.emod_nonneg g (show (n : Int) ≠ 0 by omega)
  have g2 := Int.emod_lt_of_pos g (show (0 : Int) < n by omega)
  by_cases h0 : g % n = 0
  · have h1 : IsOrd (n : Int) n (lam n) := by
      rw [← isOrd_mods, Int.emod_self, ← h0, isOrd_mods]; exact ho
    exact ⟨n, by omega, by omega, gcd_of_one h1.1 h1.2.1, h1⟩
  · have h1 : IsOrd (g % n) n (lam n) := isOrd_mods.2 ho
    exact ⟨g % n, by omega, by omega, gcd_of_one h1.1 h1.2.1, h1⟩
end Go.Proofs.Ytceocooppjfjjaa.M
