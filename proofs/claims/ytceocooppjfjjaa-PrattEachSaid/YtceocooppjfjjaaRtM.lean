/- Plain: how many places make a polynomial 0 (for seats without the texts on lists of coefficients). -/
import Derived.Test.YtceocooppjfjjaaNum3
namespace Go.Proofs.Ytceocooppjfjjaa.Rt
set_option linter.unusedVariables false
set_option linter.unusedSimpArgs false
def ev : List Int → Int → Int
  | [], _ => 0
  | k :: t, x => k + x * ev t x
def quo (c : Int) : List Int → List Int
  | [] => []
  | [_] => []
  | _ :: k :: t => ev (k :: t) c :: quo c (k :: t)
theorem quo_ev (c x : Int) : ∀ l : List Int, ev l x - ev l c = (x - c) * ev (quo c l) x
  | [] => by simp [ev, quo]
  | [k] => by simp [ev, quo]
  | h :: k :: t => by
    have ih := quo_ev c x (k :: t)
    show (h + x * ev (k :: t) x) - (h + c * ev (k :: t) c) = (x - c) * (ev (k :: t) c + x * ev (quo c (k :: t)) x)
    have e : (x - c) * (ev (k :: t) c + x * ev (quo c (k :: t)) x) = (x - c) * ev (k :: t) c + x * ((x - c) * ev (quo c (k :: t)) x) := by
      rw [Int.mul_add, Int.mul_left_comm]
    rw [e, ← ih, Int.sub_mul, Int.mul_sub]
    omega
theorem quo_len (c : Int) : ∀ l : List Int, (quo c l).length = l.length - 1
  | [] => rfl
  | [_] => rfl
  | _ :: k :: t => by
    have := quo_len c (k :: t)
    show (quo c (k :: t)).length + 1 = _
    rw [this]; simp
theorem quo_last (c : Int) : ∀ l : List Int, 2 ≤ l.length → (quo c l).getLastD 1 = l.getLastD 1
  | [], h => by simp at h
  | [_], h => by simp at h
  | [h, k], _ => by simp [quo, ev]
  | h :: k :: m :: t, _ => by
    have ih := quo_last c (k :: m :: t) (by simp)
    have e : quo c (k :: m :: t) ≠ [] := by simp [quo]
    show (ev (k :: m :: t) c :: quo c (k :: m :: t)).getLastD 1 = _
    rw [List.getLastD_cons]
    obtain ⟨y, s, hs⟩ : ∃ y s, quo c (k :: m :: t) = y :: s := ⟨_, _, rfl⟩
    rw [hs] at ih ⊢
    rw [List.getLastD_cons] at ih ⊢
    exact ih.trans (by simp)
/-- how many of the first numbers -/
def cnt : Nat → (Nat → Bool) → Nat
  | 0, _ => 0
  | n + 1, f => cnt n f + if f n = true then 1 else 0
theorem cnt_none {f : Nat → Bool} : ∀ {n : Nat}, (∀ i, i < n → f i = false) → cnt n f = 0
  | 0, _ => rfl
  | n + 1, h => by unfold cnt; rw [cnt_none (fun i hi => h i (by omega)), h n (by omega)]; rfl
theorem cnt_all {f : Nat → Bool} : ∀ {n : Nat}, (∀ i, i < n → f i = true) → cnt n f = n
  | 0, _ => rfl
  | n + 1, h => by unfold cnt; rw [cnt_all (fun i hi => h i (by omega)), h n (by omega)]; rfl
theorem cnt_one {f g : Nat → Bool} {c : Nat} : ∀ {n : Nat}, (∀ i, i < n → f i = true → i = c ∨ g i = true) → cnt n f ≤ cnt n g + if c < n then 1 else 0
  | 0, _ => by simp [cnt]
  | n + 1, h => by
    have ih := cnt_one (f := f) (g := g) (c := c) (n := n) fun i hi => h i (by omega)
    unfold cnt
    have h1 := h n (by omega)
    by_cases hf : f n = true
    · rw [if_pos hf]
      rcases h1 hf with e | e
      · subst e
        rw [if_neg (show ¬ n < n by omega)] at ih
        rw [if_pos (show n < n + 1 by omega)]
        split <;> omega
      · rw [if_pos e]
        split at ih <;> split <;> omega
    · rw [if_neg hf]
      split at ih <;> split <;> split <;> omega
theorem roots_le {p : Nat} (hp : M.Pr p) : ∀ (n : Nat) (l : List Int), l.length = n + 1 → l.getLastD 1 % (p : Int) ≠ 0 → cnt p (fun x => ev l x % (p : Int) == 0) ≤ n
  | 0, l, hl, h => by
    obtain ⟨k, rfl⟩ := List.length_eq_one_iff.1 hl
    rw [cnt_none]
    · exact Nat.le_refl _
    · intro i _
      simpa [ev] using h
  | n + 1, l, hl, h => by
    by_cases hc : ∃ c, c < p ∧ ev l c % (p : Int) = 0
    · obtain ⟨c, hcp, hc⟩ := hc
      have ih := roots_le hp n (quo c l) (by rw [quo_len, hl]; rfl) (by rw [quo_last _ _ (by omega)]; exact h)
      have := cnt_one (f := fun x => ev l x % (p : Int) == 0) (g := fun x => ev (quo c l) x % (p : Int) == 0) (c := c) (n := p) (fun i hi hf => by
        have e := quo_ev c i l
        have hd : (p : Int) ∣ ((i : Int) - c) * ev (quo c l) i := by
          rw [← e]
          exact Int.dvd_sub (Int.dvd_of_emod_eq_zero (by simpa using hf)) (Int.dvd_of_emod_eq_zero hc)
        rcases hp.dvd_mul_int hd with h1 | h1
        · left
          obtain ⟨q, hq⟩ := h1
          have : q = 0 := by
            rcases Int.lt_trichotomy q 0 with h2 | h2 | h2
            · have := Int.mul_le_mul_of_nonneg_left (show q ≤ -1 by omega) (show (0 : Int) ≤ p by omega); omega
            · exact h2
            · have := Int.mul_le_mul_of_nonneg_left (show 1 ≤ q by omega) (show (0 : Int) ≤ p by omega); omega
          subst this
          omega
        · right; simpa using Int.emod_eq_zero_of_dvd h1)
      split at this <;> omega
    · rw [cnt_none]
      · omega
      · intro i hi
        simpa using fun e => hc ⟨i, hi, e⟩
theorem ev_top (x : Int) : ∀ n : Nat, ev (List.replicate n 0 ++ [1]) x = x ^ n
  | 0 => by simp [ev]
  | n + 1 => by
    rw [List.replicate_succ, List.cons_append]
    show 0 + x * ev (List.replicate n 0 ++ [1]) x = _
    rw [ev_top x n, Int.pow_succ, Int.zero_add, Int.mul_comm]
/-- at most d numbers have 1 as their power by d -/
theorem ones_le {p : Nat} (hp : M.Pr p) {d : Nat} (hd : 1 ≤ d) : cnt p (fun x => (x : Int) ^ d % (p : Int) == 1 % p) ≤ d := by
  obtain ⟨k, rfl⟩ : ∃ k, d = k + 1 := ⟨d - 1, by omega⟩
  have h2 := hp.1
  have h1 : (1 : Int) % p = 1 := Int.emod_eq_of_lt (by omega) (by omega)
  have hl : (-1 :: (List.replicate k (0 : Int) ++ [1])).getLastD 1 = 1 := by rw [← List.cons_append, List.getLastD_eq_getLast?, List.getLast?_append]; rfl
  have h := roots_le hp (k + 1) (-1 :: (List.replicate k 0 ++ [1])) (by simp) (by rw [hl, h1]; decide)
  have e : ∀ x : Nat, (ev (-1 :: (List.replicate k 0 ++ [1])) (x : Int) % (p : Int) == 0) = ((x : Int) ^ (k + 1) % (p : Int) == 1 % p) := by
    intro x
    have e1 : ev (-1 :: (List.replicate k 0 ++ [1])) (x : Int) = (x : Int) ^ (k + 1) - 1 := by
      show -1 + (x : Int) * ev (List.replicate k 0 ++ [1]) x = _
      rw [ev_top, Int.pow_succ, Int.mul_comm]; omega
    rw [e1, Bool.eq_iff_iff, beq_iff_eq, beq_iff_eq, Int.emod_eq_emod_iff_emod_sub_eq_zero]
  simp only [e] at h
  exact h
end Go.Proofs.Ytceocooppjfjjaa.Rt
