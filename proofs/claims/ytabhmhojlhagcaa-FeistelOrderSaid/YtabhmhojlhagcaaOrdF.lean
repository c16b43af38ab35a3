/- Plain: the cycles of a permutation of 256 numbers, how long all take together, and that it fits. -/
namespace Go.Proofs.Ytabhmhojlhagcaa.F
set_option linter.unusedVariables false
set_option linter.unusedSimpArgs false
/-- so many times -/
def it (f : Nat → Nat) : Nat → Nat → Nat
  | 0, x => x
  | k + 1, x => f (it f k x)
theorem it_add (f : Nat → Nat) (a b x : Nat) : it f (a + b) x = it f a (it f b x) := by
  induction a with
  | zero => rw [Nat.zero_add]; rfl
  | succ a ih => rw [Nat.add_right_comm]; show f (it f (a + b) x) = f (it f a (it f b x)); rw [ih]
theorem it_one (f : Nat → Nat) (k x : Nat) : it f k (f x) = it f (k + 1) x := by rw [it_add]; rfl
theorem it_mul {f : Nat → Nat} {a x : Nat} (h : it f a x = x) : ∀ c, it f (a * c) x = x
  | 0 => rfl
  | c + 1 => by rw [Nat.mul_succ, it_add, h, it_mul h c]
theorem it_dvd {f : Nat → Nat} {a b x : Nat} (h : it f a x = x) (hd : a ∣ b) : it f b x = x := by
  obtain ⟨c, rfl⟩ := hd; exact it_mul h c
/-- a permutation of the numbers below 256 -/
structure Perm (f g : Nat → Nat) : Prop where
  lt : ∀ x, x < 256 → f x < 256
  gt : ∀ x, x < 256 → g x < 256
  gf : ∀ x, x < 256 → g (f x) = x
theorem Perm.it_lt {f g : Nat → Nat} (h : Perm f g) {x : Nat} (hx : x < 256) : ∀ k, it f k x < 256
  | 0 => hx
  | k + 1 => h.lt _ (h.it_lt hx k)
theorem Perm.inj {f g : Nat → Nat} (h : Perm f g) {x y : Nat} (hx : x < 256) (hy : y < 256) (e : f x = f y) : x = y := by
  rw [← h.gf x hx, ← h.gf y hy, e]
theorem Perm.it_inj {f g : Nat → Nat} (h : Perm f g) {x y : Nat} (hx : x < 256) (hy : y < 256) : ∀ k, it f k x = it f k y → x = y
  | 0, e => e
  | k + 1, e => h.it_inj hx hy k (h.inj (h.it_lt hx k) (h.it_lt hy k) e)
theorem Perm.it_cancel {f g : Nat → Nat} (h : Perm f g) {x j k : Nat} (hx : x < 256) (hjk : j ≤ k) (e : it f k x = it f j x) : it f (k - j) x = x := by
  refine h.it_inj (h.it_lt hx _) hx j ?_
  rw [← it_add, show j + (k - j) = k by omega, e]
/-- how many are seen -/
def cnt (s : Nat → Bool) : Nat → Nat
  | 0 => 0
  | n + 1 => cnt s n + if s n = true then 1 else 0
theorem cnt_le (s : Nat → Bool) : ∀ n, cnt s n ≤ n
  | 0 => Nat.le_refl 0
  | n + 1 => by have := cnt_le s n; unfold cnt; split <;> omega
def see (s : Nat → Bool) (z : Nat) : Nat → Bool := fun i => if i = z then true else s i
theorem cnt_congr {s t : Nat → Bool} : ∀ {n}, (∀ i, i < n → s i = t i) → cnt s n = cnt t n
  | 0, _ => rfl
  | n + 1, h => by unfold cnt; rw [cnt_congr (n := n) fun i hi => h i (by omega), h n (by omega)]
theorem cnt_see {s : Nat → Bool} {z : Nat} (hs : s z = false) : ∀ {n}, z < n → cnt (see s z) n = cnt s n + 1
  | n + 1, h => by
    unfold cnt
    by_cases e : z = n
    · subst e
      have e1 : cnt (see s z) z = cnt s z := cnt_congr fun i hi => by unfold see; rw [if_neg (by omega)]
      rw [e1, hs, show see s z z = true by unfold see; rw [if_pos rfl]]
      simp
    · rw [cnt_see hs (by omega), show see s z n = s n by unfold see; rw [if_neg (by omega)]]
      omega
/-- what a size weighs -/
def wt (s : Nat) : Nat := s / Nat.gcd s 6
def cst (s : Nat) : Nat := (wt s ^ 6 + 2 ^ s - 1) / 2 ^ s
def prodW (D : List Nat) : Nat := (D.map wt).foldr (· * ·) 1
def prodC (D : List Nat) : Nat := (D.map cst).foldr (· * ·) 1
theorem prodC_perm {a b : List Nat} (h : a.Perm b) : prodC a = prodC b := by
  unfold prodC
  induction h with
  | nil => rfl
  | cons x _ ih => simp only [List.map_cons, List.foldr_cons, ih]
  | swap x y l => simp only [List.map_cons, List.foldr_cons]; ac_rfl
  | trans _ _ i1 i2 => exact i1.trans i2
theorem wt_cst : ∀ s, s ≤ 256 → 1 ≤ s → wt s ^ 6 ≤ 2 ^ s * cst s ∧ 1 ≤ cst s := by
  have h : ((List.range 257).all fun s => decide (s = 0) || decide (wt s ^ 6 ≤ 2 ^ s * cst s) && decide (1 ≤ cst s)) = true := by decide +kernel
  intro s hs h1
  have := List.all_eq_true.1 h s (List.mem_range.2 (by omega))
  rw [decide_eq_false (by omega), Bool.false_or] at this
  simpa using this
theorem all_fit : (6 : Nat) ^ 6 * (2 ^ 256 * prodC ((List.range 256).map (· + 1))) < (2 ^ 62) ^ 6 := by decide +kernel
theorem prodC_sub : ∀ {D R : List Nat}, D.Nodup → (∀ x ∈ D, x ∈ R) → (∀ x ∈ R, 1 ≤ cst x) → prodC D ≤ prodC R
  | [], R, _, _, hc => by
    show 1 ≤ prodC R
    induction R with
    | nil => exact Nat.le_refl 1
    | cons x t ih =>
      have h1 := hc x (by simp)
      have h2 := ih (by simp) (fun y hy => hc y (List.mem_cons_of_mem _ hy))
      exact Nat.mul_le_mul h1 h2
  | d :: t, R, hn, hs, hc => by
    have hd : d ∈ R := hs d (by simp)
    have hp := List.perm_cons_erase hd
    rw [prodC_perm hp]
    rw [List.nodup_cons] at hn
    refine Nat.mul_le_mul_left _ (prodC_sub hn.2 (fun x hx => ?_) (fun x hx => hc x (List.mem_of_mem_erase hx)))
    have hxd : x ≠ d := fun e => hn.1 (e ▸ hx)
    exact (List.mem_erase_of_ne hxd).2 (hs x (List.mem_cons_of_mem _ hx))
theorem prodW_pow : ∀ {D : List Nat}, (∀ x ∈ D, 1 ≤ x ∧ x ≤ 256) → prodW D ^ 6 ≤ 2 ^ D.sum * prodC D
  | [], _ => by decide
  | d :: t, h => by
    have h1 := wt_cst d (h d (by simp)).2 (h d (by simp)).1
    have h2 := prodW_pow (D := t) fun x hx => h x (List.mem_cons_of_mem _ hx)
    show (wt d * prodW t) ^ 6 ≤ 2 ^ (d + t.sum) * (cst d * prodC t)
    rw [Nat.mul_pow, Nat.pow_add]
    refine Nat.le_trans (Nat.mul_le_mul h1.1 h2) (Nat.le_of_eq (by ac_rfl))
theorem mem_le_sum {D : List Nat} {x : Nat} (h : x ∈ D) : x ≤ D.sum := by
  induction D with
  | nil => cases h
  | cons d t ih =>
    rw [List.sum_cons]
    rcases List.mem_cons.1 h with e | e
    · omega
    · have := ih e; omega
/-- the order of all fits -/
theorem fits_all {D : List Nat} (hn : D.Nodup) (h1 : ∀ x ∈ D, 1 ≤ x) (hs : D.sum ≤ 256) : 6 * prodW D < 2 ^ 62 := by
  have h2 : ∀ x ∈ D, 1 ≤ x ∧ x ≤ 256 := fun x hx => ⟨h1 x hx, Nat.le_trans (mem_le_sum hx) hs⟩
  have a := prodW_pow h2
  have b : prodC D ≤ prodC ((List.range 256).map (· + 1)) := prodC_sub hn (fun x hx => by
    have := h2 x hx
    exact List.mem_map.2 ⟨x - 1, List.mem_range.2 (by omega), by omega⟩) (fun x hx => by
    obtain ⟨y, hy, rfl⟩ := List.mem_map.1 hx
    have := List.mem_range.1 hy
    exact (wt_cst (y + 1) (by omega) (by omega)).2)
  have c : 2 ^ D.sum ≤ 2 ^ 256 := Nat.pow_le_pow_right (by omega) hs
  have d : (6 * prodW D) ^ 6 < (2 ^ 62) ^ 6 := by
    rw [Nat.mul_pow]
    exact Nat.lt_of_le_of_lt (Nat.mul_le_mul_left _ (Nat.le_trans a (Nat.mul_le_mul c b))) all_fit
  exact Nat.lt_of_not_le fun hle => absurd (Nat.pow_le_pow_left hle 6) (by omega)
theorem dvd_wt (s : Nat) : s ∣ 6 * wt s := by
  unfold wt
  obtain ⟨c, hc⟩ := Nat.gcd_dvd_right s 6
  have e : s = Nat.gcd s 6 * (s / Nat.gcd s 6) := (Nat.mul_div_cancel' (Nat.gcd_dvd_left s 6)).symm
  exact ⟨c, by
    conv => rhs; lhs; rw [e]
    conv => lhs; lhs; rw [hc]
    ac_rfl⟩
end Go.Proofs.Ytabhmhojlhagcaa.F
