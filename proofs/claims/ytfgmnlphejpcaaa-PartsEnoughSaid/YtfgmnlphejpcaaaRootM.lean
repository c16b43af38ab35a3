/- Plain: values of polynomials, and how many places make one 0. -/
import Derived.Test.YtfgmnlphejpcaaaBack
namespace Go.Proofs.Ytfgmnlphejpcaaa
set_option linter.unusedVariables false
set_option linter.unusedSimpArgs false
theorem backL_snd (xs : List Int) : (backL xs).map (fun e => e.2) = xs.reverse := by
  unfold backL
  have e : (List.range xs.length).map (fun i => co xs i) = xs := by
    apply List.ext_getElem?
    intro i
    rw [List.getElem?_map]
    by_cases hi : i < xs.length
    · rw [List.getElem?_range hi, List.getElem?_eq_getElem hi]
      simp [co_in hi]
    · rw [List.getElem?_eq_none (by simp; omega), List.getElem?_eq_none (by omega)]; rfl
  rw [List.map_map, List.map_reverse]
  congr 1
/-- the value -/
def ev : List Int → Int → Int
  | [], _ => 0
  | k :: t, x => k + x * ev t x
theorem horT_eq (p x : Int) (l : List (Nat × Int)) : horT p x l = (l.map (fun e => e.2)).foldl (fun y k => (y * x + k) % p) 0 := by
  unfold horT; rw [List.foldl_map]
theorem valL_ev (p x : Int) (xs : List Int) : valL p xs x = ev xs x % p := by
  unfold valL
  rw [horT_eq, backL_snd, List.foldl_reverse]
  induction xs with
  | nil => simp [ev]
  | cons k t ih =>
    rw [List.foldr_cons, ih]
    show _ = (k + x * ev t x) % p
    rw [Int.add_emod, Int.mul_emod, Int.emod_emod, ← Int.mul_emod, ← Int.add_emod, Int.mul_comm, Int.add_comm]
/-- divided by x - c -/
def quo (c : Int) : List Int → List Int
  | [] => []
  | [_] => []
  | _ :: k :: t => ev (k :: t) c :: quo c (k :: t)
theorem quo_ev (c x : Int) : ∀ l : List Int, ev l x - ev l c = (x - c) * ev (quo c l) x
  | [] => by simp [ev, quo]
  | [k] => by simp [ev, quo]
  | h :: k :: t => by
    have ih := quo_ev c x (k :: t)
    show (h + x * ev (k :: t) x) - (h + c * ev (k :: t) c) = (x - c) * (ev (k :: t) c + x * ev (quo c (k :: t)) x)
    have e : (x - c) * (ev (k :: t) c + x * ev (quo c (k :: t)) x) = (x - c) * ev (k :: t) c + x * ((x - c) * ev (quo c (k :: t)) x) := by
      rw [Int.mul_add, Int.mul_left_comm]
    rw [e, ← ih, Int.sub_mul, Int.mul_sub]
    omega
theorem quo_len (c : Int) : ∀ l : List Int, (quo c l).length = l.length - 1
  | [] => rfl
  | [_] => rfl
  | _ :: k :: t => by
    have := quo_len c (k :: t)
    show (quo c (k :: t)).length + 1 = _
    rw [this]; simp
theorem quo_last (c : Int) : ∀ l : List Int, 2 ≤ l.length → (quo c l).getLastD 1 = l.getLastD 1
  | [], h => by simp at h
  | [_], h => by simp at h
  | [h, k], _ => by simp [quo, ev]
  | h :: k :: m :: t, _ => by
    have ih := quo_last c (k :: m :: t) (by simp)
    have e : quo c (k :: m :: t) ≠ [] := by simp [quo]
    show (ev (k :: m :: t) c :: quo c (k :: m :: t)).getLastD 1 = _
    rw [List.getLastD_cons]
    obtain ⟨y, s, hs⟩ : ∃ y s, quo c (k :: m :: t) = y :: s := ⟨_, _, rfl⟩
    rw [hs] at ih ⊢
    rw [List.getLastD_cons] at ih ⊢
    exact ih.trans (by simp)
/-- how many of the first numbers -/
def cnt : Nat → (Nat → Bool) → Nat
  | 0, _ => 0
  | n + 1, f => cnt n f + if f n = true then 1 else 0
theorem cnt_none {f : Nat → Bool} : ∀ {n : Nat}, (∀ i, i < n → f i = false) → cnt n f = 0
  | 0, _ => rfl
  | n + 1, h => by unfold cnt; rw [cnt_none (fun i hi => h i (by omega)), h n (by omega)]; rfl
theorem cnt_all {f : Nat → Bool} : ∀ {n : Nat}, (∀ i, i < n → f i = true) → cnt n f = n
  | 0, _ => rfl
  | n + 1, h => by unfold cnt; rw [cnt_all (fun i hi => h i (by omega)), h n (by omega)]; rfl
theorem cnt_one {f g : Nat → Bool} {c : Nat} : ∀ {n : Nat}, (∀ i, i < n → f i = true → i = c ∨ g i = true) → cnt n f ≤ cnt n g + if c < n then 1 else 0
  | 0, _ => by simp [cnt]
  | n + 1, h => by
    have ih := cnt_one (f := f) (g := g) (c := c) (n := n) fun i hi => h i (by omega)
    unfold cnt
    have h1 := h n (by omega)
    by_cases hf : f n = true
    · rw [if_pos hf]
      rcases h1 hf with e | e
      · subst e
        rw [if_neg (show ¬ n < n by omega)] at ih
        rw [if_pos (show n < n + 1 by omega)]
        split <;> omega
      · rw [if_pos e]
        split at ih <;> split <;> omega
    · rw [if_neg hf]
      split at ih <;> split <;> split <;> omega
theorem roots_le {p : Nat} (hp : M.Pr p) : ∀ (n : Nat) (l : List Int), l.length = n + 1 → l.getLastD 1 % (p : Int) ≠ 0 → cnt p (fun x => ev l x % (p : Int) == 0) ≤ n
  | 0, l, hl, h => by
    obtain ⟨k, rfl⟩ := List.length_eq_one_iff.1 hl
    rw [cnt_none]
    · exact Nat.le_refl _
    · intro i _
      simpa [ev] using h
  | n + 1, l, hl, h => by
    by_cases hc : ∃ c, c < p ∧ ev l c % (p : Int) = 0
    · obtain ⟨c, hcp, hc⟩ := hc
      have ih := roots_le hp n (quo c l) (by rw [quo_len, hl]; rfl) (by rw [quo_last _ _ (by omega)]; exact h)
      have := cnt_one (f := fun x => ev l x % (p : Int) == 0) (g := fun x => ev (quo c l) x % (p : Int) == 0) (c := c) (n := p) (fun i hi hf => by
        have e := quo_ev c i l
        have hd : (p : Int) ∣ ((i : Int) - c) * ev (quo c l) i := by
          rw [← e]
          exact Int.dvd_sub (Int.dvd_of_emod_eq_zero (by simpa using hf)) (Int.dvd_of_emod_eq_zero hc)
        rcases hp.dvd_mul_int hd with h1 | h1
        · left
          obtain ⟨q, hq⟩ := h1
          have : q = 0 := by
            rcases Int.lt_trichotomy q 0 with h2 | h2 | h2
            · have := Int.mul_le_mul_of_nonneg_left (show q ≤ -1 by omega) (show (0 : Int) ≤ p by omega); omega
            · exact h2
            · have := Int.mul_le_mul_of_nonneg_left (show 1 ≤ q by omega) (show (0 : Int) ≤ p by omega); omega
          subst this
          omega
        · right; simpa using Int.emod_eq_zero_of_dvd h1)
      split at this <;> omega
    · rw [cnt_none]
      · omega
      · intro i hi
        simpa using fun e => hc ⟨i, hi, e⟩
end Go.Proofs.Ytfgmnlphejpcaaa
