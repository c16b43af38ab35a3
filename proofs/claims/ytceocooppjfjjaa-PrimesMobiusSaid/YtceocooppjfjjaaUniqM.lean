/- Plain: the primes of a number, with their exponents, are one list alone. -/
import Derived.Test.YtceocooppjfjjaaOrdM
namespace Go.Proofs.Ytceocooppjfjjaa.M
set_option linter.unusedVariables false
set_option linter.unusedSimpArgs false
theorem prodP_prime {p : Nat} (hp : Pr p) : ∀ l : List (Nat × Nat), (∀ x ∈ l, Pr x.1) → p ∣ prodP l → ∃ x ∈ l, x.1 = p
  | [], _, h => by
    have : p = 1 := Nat.eq_one_of_dvd_one h
    have := hp.1; omega
  | x :: t, hl, h => by
    have h' : p ∣ x.1 ^ x.2 * prodP t := h
    rcases hp.dvd_mul h' with h1 | h1
    · exact ⟨x, by simp, (hp.eq_of_dvd (hl x (by simp)) (hp.dvd_pow h1)).symm⟩
    · obtain ⟨y, hy, e⟩ := prodP_prime hp t (fun y hy => hl y (by simp [hy])) h1
      exact ⟨y, by simp [hy], e⟩
theorem facL_mk : ∀ (l : List (Nat × Nat)) (b : Nat), (∀ x ∈ l, Pr x.1 ∧ 1 ≤ x.2) → l.Pairwise (fun x y => x.1 < y.1) → (∀ x ∈ l, b ≤ x.1) → FacL b (prodP l) l
  | [], _, _, _, _ => rfl
  | x :: t, b, hl, hr, hb => by
    obtain ⟨h1, h2⟩ := List.pairwise_cons.1 hr
    refine ⟨hb x (by simp), (hl x (by simp)).1, (hl x (by simp)).2, prodP t, rfl, fun hd => ?_, facL_mk t _ (fun y hy => hl y (by simp [hy])) h2 (fun y hy => h1 y hy)⟩
    obtain ⟨y, hy, e⟩ := prodP_prime (hl x (by simp)).1 t (fun y hy => (hl y (by simp [hy])).1) hd
    have := h1 y hy; omega
theorem pow_part {p : Nat} (hp : Pr p) {k j m n : Nat} (h : p ^ k * m = p ^ j * n) (hm : ¬ p ∣ m) (hn : ¬ p ∣ n) : k = j ∧ m = n := by
  have key : ∀ {k j m n : Nat}, k ≤ j → p ^ k * m = p ^ j * n → ¬ p ∣ m → k = j ∧ m = n := fun {k j m n} hkj h hm => by
    obtain ⟨d, rfl⟩ := Nat.exists_eq_add_of_le hkj
    rw [Nat.pow_add, Nat.mul_assoc] at h
    have h2 : m = p ^ d * n := Nat.eq_of_mul_eq_mul_left (Nat.pow_pos hp.pos) h
    rcases d with _ | d
    · exact ⟨rfl, by simpa using h2⟩
    · exact absurd ⟨p ^ d * n, by rw [h2, Nat.pow_succ]; grind⟩ hm
  rcases Nat.le_total k j with h1 | h1
  · exact key h1 h hm
  · obtain ⟨e1, e2⟩ := key h1 h.symm hn
    exact ⟨e1.symm, e2.symm⟩
theorem facL_low {b n : Nat} {l : List (Nat × Nat)} (h : FacL b n l) : ∀ x ∈ l, b ≤ x.1 := fun x hx => (h.dvd x hx).2.2.1
theorem facL_nil {b n : Nat} {y : Nat × Nat} {s : List (Nat × Nat)} (h : n = 1) (h' : FacL b n (y :: s)) : False := by
  have hd := (h'.dvd y (by simp)).2.2.2
  obtain ⟨_, h2, h3, _⟩ := h'
  subst h
  have e1 := Nat.eq_one_of_dvd_one hd
  obtain ⟨k, hk⟩ : ∃ k, y.2 = k + 1 := ⟨y.2 - 1, by omega⟩
  rw [hk, Nat.pow_succ] at e1
  have := Nat.eq_one_of_mul_eq_one_left e1
  have := h2.1; omega
theorem facL_unique : ∀ (l m : List (Nat × Nat)) (b n : Nat), FacL b n l → FacL b n m → l = m
  | [], [], _, _, _, _ => rfl
  | [], y :: s, b, n, h, h' => (facL_nil h h').elim
  | x :: t, [], b, n, h, h' => (facL_nil h' h).elim
  | x :: t, y :: s, b, n, h, h' => by
    have hx := (h.dvd x (by simp))
    have hy := (h'.dvd y (by simp))
    have dx : x.1 ∣ n := Nat.dvd_trans (Nat.dvd_trans ⟨x.1 ^ (x.2 - 1), by rw [← Nat.pow_succ']; congr 1; omega⟩ (Nat.dvd_refl (x.1 ^ x.2))) hx.2.2.2
    have dy : y.1 ∣ n := Nat.dvd_trans (Nat.dvd_trans ⟨y.1 ^ (y.2 - 1), by rw [← Nat.pow_succ']; congr 1; omega⟩ (Nat.dvd_refl (y.1 ^ y.2))) hy.2.2.2
    obtain ⟨q, hq, e⟩ := h'.all hx.1 dx
    obtain ⟨r, hr, e'⟩ := h.all hy.1 dy
    obtain ⟨a1, a2, a3, m1, a4, a5, a6⟩ := h
    obtain ⟨b1, b2, b3, m2, b4, b5, b6⟩ := h'
    have l1 : y.1 ≤ x.1 := by
      rcases List.mem_cons.1 hq with h | h
      · rw [← e, h]; exact Nat.le_refl _
      · have := facL_low b6 q h; omega
    have l2 : x.1 ≤ y.1 := by
      rcases List.mem_cons.1 hr with h | h
      · rw [← e', h]; exact Nat.le_refl _
      · have := facL_low a6 r h; omega
    have e0 : x.1 = y.1 := Nat.le_antisymm l2 l1
    rw [e0] at a4 a5 a6
    obtain ⟨k1, k2⟩ := pow_part b2 (a4.symm.trans b4) a5 b5
    subst k2
    have := facL_unique t s _ _ a6 b6
    rw [this]
    congr 1
    exact Prod.ext e0 k1
/-- a rising list of primes whose product a number is, is the list of its primes -/
theorem fac_of {l : List (Nat × Nat)} {n : Nat} (hn : 0 < n) (h1 : ∀ x ∈ l, Pr x.1 ∧ 1 ≤ x.2) (h2 : l.Pairwise (fun x y => x.1 < y.1)) (h3 : prodP l = n) : l = fac n := by
  subst h3
  exact facL_unique l _ 2 _ (facL_mk l 2 h1 h2 (fun x hx => (h1 x hx).1.1)) (fac_spec hn)
/-- what has been multiplied so far is at most the number -/
theorem prodP_take {n : Nat} (hn : 0 < n) {I : Nat} {x : Nat × Nat} (hx : (fac n)[I]? = some x) (k : Nat) (hk : k ≤ x.2) : prodP ((fac n).take I) * x.1 ^ k ≤ n := by
  have hI : I < (fac n).length := (List.getElem?_eq_some_iff.1 hx).1
  have e : fac n = (fac n).take I ++ x :: (fac n).drop (I + 1) := by
    rw [List.getElem?_eq_getElem hI] at hx
    injection hx with hx
    rw [← hx, List.getElem_cons_drop, List.take_append_drop]
  have h := prodP_fac (fac_spec hn)
  rw [e, prodP_append] at h
  have h' : prodP ((fac n).take I) * (x.1 ^ x.2 * prodP ((fac n).drop (I + 1))) = n := h
  have hp := (fac_spec hn).dvd x (List.mem_of_getElem? hx)
  have hr : 0 < prodP ((fac n).drop (I + 1)) := Nat.pos_of_ne_zero fun h0 => by rw [h0] at h'; simp at h'; omega
  have h1 : x.1 ^ k ≤ x.1 ^ x.2 := Nat.pow_le_pow_right hp.1.pos hk
  calc prodP ((fac n).take I) * x.1 ^ k ≤ prodP ((fac n).take I) * (x.1 ^ x.2 * prodP ((fac n).drop (I + 1))) := Nat.mul_le_mul_left _ (Nat.le_trans h1 (Nat.le_mul_of_pos_right _ hr))
    _ = n := h'
theorem prodP_snoc (l : List (Nat × Nat)) (x : Nat × Nat) : prodP (l ++ [x]) = prodP l * x.1 ^ x.2 := by rw [prodP_append]; simp [prodP]
theorem fac_rising {n : Nat} (hn : 0 < n) : (fac n).Pairwise (fun x y => x.1 < y.1) := by
  have key : ∀ (l : List (Nat × Nat)) (b m : Nat), FacL b m l → l.Pairwise (fun x y => x.1 < y.1) := by
    intro l
    induction l with
    | nil => intro _ _ _; exact List.Pairwise.nil
    | cons x t ih =>
      intro b m h
      obtain ⟨_, _, _, m', _, _, h6⟩ := h
      exact List.pairwise_cons.2 ⟨fun y hy => by have := facL_low h6 y hy; omega, ih _ _ h6⟩
  exact key _ _ _ (fac_spec hn)
end Go.Proofs.Ytceocooppjfjjaa.M
