/- Plain number theory: Jacobi's symbol by the signs of Gauss's lemma: multiplicative above and below, the two supplements, reciprocity, Euler's criterion. -/
import Derived.Test.YtkodhpjmmiapaaaNum1
namespace Go.Proofs.Ytkodhpjmmiapaaa.M

def prodI (l : List Int) : Int := l.foldr (· * ·) 1
@[simp] theorem prodI_nil : prodI [] = 1 := rfl
@[simp] theorem prodI_cons (a : Int) (l : List Int) : prodI (a :: l) = a * prodI l := rfl
theorem prodI_perm {l m : List Int} (h : l.Perm m) : prodI l = prodI m := by
  induction h with
  | nil => rfl
  | cons x _ ih => simp [ih]
  | swap x y l => simp [Int.mul_left_comm]
  | trans _ _ h1 h2 => exact h1.trans h2
theorem prodI_append (l m : List Int) : prodI (l ++ m) = prodI l * prodI m := by
  induction l with
  | nil => simp
  | cons x t ih => simp [ih, Int.mul_assoc]
theorem prodI_map_mul {α : Type} (f g : α → Int) : ∀ l : List α, prodI (l.map fun x => f x * g x) = prodI (l.map f) * prodI (l.map g)
  | [] => by simp
  | x :: t => by
    have ih := prodI_map_mul f g t
    simp only [List.map_cons, prodI_cons, ih]; grind
theorem prodI_map_congr {α : Type} {f g : α → Int} {l : List α} (h : ∀ x ∈ l, f x = g x) : prodI (l.map f) = prodI (l.map g) := by
  rw [List.map_congr_left h]
theorem prodI_map_one {α : Type} (l : List α) : prodI (l.map fun _ => (1 : Int)) = 1 := by
  induction l with
  | nil => rfl
  | cons x t ih => simp [ih]
theorem prodI_swap {α β : Type} (t : α → β → Int) (m : List β) : ∀ l : List α, prodI (l.map fun x => prodI (m.map (t x))) = prodI (m.map fun y => prodI (l.map fun x => t x y))
  | [] => by simp [prodI_map_one]
  | x :: l => by
    have ih := prodI_swap t m l
    simp only [List.map_cons, prodI_cons, ih, prodI_map_mul]

theorem dvd_cancel {a b c : Int} (h : c ∣ a * b) (hg : Int.gcd c a = 1) : c ∣ b := by
  have h1 : c.natAbs ∣ a.natAbs * b.natAbs := by rw [← Int.natAbs_mul]; exact Int.natAbs_dvd_natAbs.2 h
  have h2 : Nat.Coprime c.natAbs a.natAbs := hg
  exact Int.natAbs_dvd_natAbs.1 (h2.dvd_of_dvd_mul_left h1)
/-- the sign of a parity -/
def par (k : Int) : Int := if k % 2 = 0 then 1 else -1
theorem par_add (a b : Int) : par (a + b) = par a * par b := by
  unfold par; split <;> split <;> split <;> omega
theorem par_sq (a : Int) : par a * par a = 1 := by unfold par; split <;> rfl
theorem par_cases (a : Int) : par a = 1 ∨ par a = -1 := by unfold par; split <;> simp
theorem par_congr {a b : Int} (h : a % 2 = b % 2) : par a = par b := by unfold par; rw [h]

/-- 1 below the half, -1 above it -/
def sg (n r : Int) : Int := if 2 * (r % n) < n then 1 else -1
theorem sg_cases (n r : Int) : sg n r = 1 ∨ sg n r = -1 := by unfold sg; split <;> simp
theorem sg_sq (n r : Int) : sg n r * sg n r = 1 := by rcases sg_cases n r with h | h <;> rw [h] <;> rfl
theorem sg_congr {n a b : Int} (h : n ∣ a - b) : sg n a = sg n b := by
  have : a % n = b % n := Int.emod_eq_emod_iff_emod_sub_eq_zero.2 (Int.emod_eq_zero_of_dvd h)
  unfold sg; rw [this]
theorem neg_emod' {n r : Int} (hn : 0 < n) (hr : r % n ≠ 0) : (-r) % n = n - r % n := by
  have h1 := Int.emod_nonneg r (by omega : n ≠ 0)
  have h2 := Int.emod_lt_of_pos r hn
  have e : -r = (n - r % n) + n * (-(r / n) - 1) := by
    have := Int.mul_ediv_add_emod r n
    grind
  rw [e, Int.add_mul_emod_self_left, Int.emod_eq_of_lt (by omega) (by omega)]
theorem sg_neg {n r : Int} (hn : 0 < n) (ho : n % 2 = 1) (hr : r % n ≠ 0) : sg n (-r) = - sg n r := by
  have e := neg_emod' hn hr
  unfold sg; rw [e]; split <;> split <;> omega

/-- the absolutely least remainder, without its sign -/
def ar (n r : Int) : Int := if 2 * (r % n) < n then r % n else n - r % n
theorem sg_ar {n r : Int} : n ∣ r - sg n r * ar n r := by
  have h := Int.mul_ediv_add_emod r n
  unfold sg ar; split
  · exact ⟨r / n, by grind⟩
  · exact ⟨r / n + 1, by grind⟩
theorem ar_range {n r : Int} (hn : 0 < n) (ho : n % 2 = 1) (hr : r % n ≠ 0) : 1 ≤ ar n r ∧ ar n r ≤ (n - 1) / 2 := by
  have h1 := Int.emod_nonneg r (by omega : n ≠ 0)
  have h2 := Int.emod_lt_of_pos r hn
  unfold ar; split <;> omega

/-- Jacobi's symbol -/
def jac (a n : Int) : Int := if Int.gcd a n = 1 then prodI ((List.range' 1 ((n - 1) / 2).toNat).map fun x : Nat => sg n (a * x)) else 0
theorem mem_half {n : Int} {x : Nat} (h : x ∈ List.range' 1 ((n - 1) / 2).toNat) : 1 ≤ (x : Int) ∧ 2 * (x : Int) < n := by
  have := List.mem_range'_1.1 h; omega
theorem mul_emod_ne {a n : Int} (hg : Int.gcd a n = 1) {x : Nat} (h1 : 1 ≤ (x : Int)) (h2 : 2 * (x : Int) < n) : (a * x) % n ≠ 0 := by
  intro h
  have hd : n ∣ a * x := Int.dvd_of_emod_eq_zero h
  have hd2 : n ∣ (x : Int) := dvd_cancel hd (by rw [Int.gcd_comm]; exact hg)
  have := Int.le_of_dvd (by omega) hd2
  omega
theorem jac_congr {a b n : Int} (h : n ∣ a - b) : jac a n = jac b n := by
  have hg : Int.gcd a n = Int.gcd b n := by
    obtain ⟨k, hk⟩ := h
    have : a = b + n * k := by omega
    rw [this, Int.gcd_add_mul_left_left]
  unfold jac; rw [hg]
  split
  · apply prodI_map_congr
    intro x _
    apply sg_congr
    obtain ⟨k, hk⟩ := h
    exact ⟨k * x, by rw [← Int.sub_mul, hk, Int.mul_assoc]⟩
  · rfl
theorem jac_emod (a n : Int) : jac (a % n) n = jac a n :=
  jac_congr ⟨-(a / n), by have := Int.mul_ediv_add_emod a n; grind⟩
theorem jac_zero_iff {a n : Int} : jac a n = 0 ↔ Int.gcd a n ≠ 1 := by
  unfold jac; split
  · rename_i h
    refine ⟨fun e => ?_, fun hh => absurd h hh⟩
    exfalso
    have : ∀ l : List Nat, prodI (l.map fun x : Nat => sg n (a * x)) ≠ 0 := by
      intro l; induction l with
      | nil => simp
      | cons x t ih =>
        simp only [List.map_cons, prodI_cons]
        rcases sg_cases n (a * x) with h | h <;> rw [h] <;> omega
    exact this _ e
  · simp_all
theorem jac_sq {a n : Int} (h : Int.gcd a n = 1) : jac a n * jac a n = 1 := by
  unfold jac; rw [if_pos h, ← prodI_map_mul, prodI_map_congr (g := fun _ => 1) (fun x _ => sg_sq _ _), prodI_map_one]
theorem jac_cases (a n : Int) : jac a n = 0 ∨ jac a n = 1 ∨ jac a n = -1 := by
  by_cases h : Int.gcd a n = 1
  · have := jac_sq h
    right
    have h1 : (jac a n - 1) * (jac a n + 1) = 0 := by grind
    rcases Int.mul_eq_zero.1 h1 with h | h <;> omega
  · exact .inl (jac_zero_iff.2 h)
theorem ar_perm {a n : Int} (hn : 0 < n) (ho : n % 2 = 1) (hg : Int.gcd a n = 1) :
    ((List.range' 1 ((n - 1) / 2).toNat).map fun x : Nat => (ar n (a * x)).toNat).Perm (List.range' 1 ((n - 1) / 2).toNat) := by
  apply perm_of_inj
  · refine nodup_map _ _ (List.nodup_range' (step := 1)) fun x hx y hy e => ?_
    have hx := mem_half hx
    have hy := mem_half hy
    have nx := mul_emod_ne hg hx.1 hx.2
    have ny := mul_emod_ne hg hy.1 hy.2
    have rx := ar_range hn ho nx
    have ry := ar_range hn ho ny
    have e' : ar n (a * x) = ar n (a * y) := by omega
    obtain ⟨k, hk⟩ := sg_ar (n := n) (r := a * x)
    obtain ⟨l, hl⟩ := sg_ar (n := n) (r := a * y)
    rw [← e'] at hl
    have hcop : Int.gcd n a = 1 := by rw [Int.gcd_comm]; exact hg
    rcases sg_cases n (a * x) with sx | sx <;> rcases sg_cases n (a * y) with sy | sy <;> rw [sx] at hk <;> rw [sy] at hl
    · have hd : n ∣ a * ((x : Int) - y) := ⟨k - l, by grind⟩
      have hd := dvd_cancel hd hcop
      obtain ⟨c, hc⟩ := hd
      have : c = 0 := by
        rcases Int.lt_trichotomy c 0 with h | h | h
        · have := Int.mul_le_mul_of_nonneg_left (show c ≤ -1 by omega) (Int.le_of_lt hn); omega
        · exact h
        · have := Int.mul_le_mul_of_nonneg_left (show 1 ≤ c by omega) (Int.le_of_lt hn); omega
      subst this; omega
    · exfalso
      have hd : n ∣ a * ((x : Int) + y) := ⟨k + l, by grind⟩
      have hd := dvd_cancel hd hcop
      have := Int.le_of_dvd (by omega) hd
      omega
    · exfalso
      have hd : n ∣ a * ((x : Int) + y) := ⟨k + l, by grind⟩
      have hd := dvd_cancel hd hcop
      have := Int.le_of_dvd (by omega) hd
      omega
    · have hd : n ∣ a * ((x : Int) - y) := ⟨k - l, by grind⟩
      have hd := dvd_cancel hd hcop
      obtain ⟨c, hc⟩ := hd
      have : c = 0 := by
        rcases Int.lt_trichotomy c 0 with h | h | h
        · have := Int.mul_le_mul_of_nonneg_left (show c ≤ -1 by omega) (Int.le_of_lt hn); omega
        · exact h
        · have := Int.mul_le_mul_of_nonneg_left (show 1 ≤ c by omega) (Int.le_of_lt hn); omega
      subst this; omega
  · intro y hy
    obtain ⟨x, hx, rfl⟩ := List.mem_map.1 hy
    have hx := mem_half hx
    have rx := ar_range hn ho (mul_emod_ne hg hx.1 hx.2)
    rw [List.mem_range'_1]; omega
  · simp
theorem prod_ar {a n : Int} (hn : 0 < n) (ho : n % 2 = 1) (hg : Int.gcd a n = 1) (f : Int → Int) :
    prodI ((List.range' 1 ((n - 1) / 2).toNat).map fun x : Nat => f (ar n (a * x))) = prodI ((List.range' 1 ((n - 1) / 2).toNat).map fun x : Nat => f x) := by
  rw [← prodI_perm ((ar_perm hn ho hg).map fun x : Nat => f x), List.map_map]
  apply prodI_map_congr
  intro x hx
  have hx := mem_half hx
  have rx := ar_range hn ho (mul_emod_ne hg hx.1 hx.2)
  simp only [Function.comp_def]
  congr 1; omega
/-- the symbol is multiplicative above -/
theorem jac_mul {a b n : Int} (hn : 0 < n) (ho : n % 2 = 1) : jac (a * b) n = jac a n * jac b n := by
  by_cases ha : Int.gcd a n = 1
  · by_cases hb : Int.gcd b n = 1
    · have hab : Int.gcd (a * b) n = 1 := by rw [Int.gcd_mul_right_left_of_gcd_eq_one ha]; exact hb
      have e1 : jac a n = prodI ((List.range' 1 ((n - 1) / 2).toNat).map fun x : Nat => sg n (a * ar n (b * x))) := by
        rw [prod_ar hn ho hb fun z => sg n (a * z)]; unfold jac; rw [if_pos ha]
      have e2 : jac b n = prodI ((List.range' 1 ((n - 1) / 2).toNat).map fun x : Nat => sg n (b * x)) := by unfold jac; rw [if_pos hb]
      rw [e1, e2, ← prodI_map_mul]
      unfold jac; rw [if_pos hab]
      apply prodI_map_congr
      intro x hx
      have hx := mem_half hx
      have rx := ar_range hn ho (mul_emod_ne hb hx.1 hx.2)
      have hne : (a * ar n (b * x)) % n ≠ 0 := by
        have := mul_emod_ne (x := (ar n (b * x)).toNat) ha (by omega) (by omega)
        rwa [Int.toNat_of_nonneg (by omega)] at this
      obtain ⟨k, hk⟩ := sg_ar (n := n) (r := b * x)
      rcases sg_cases n (b * x) with s | s <;> rw [s] at hk ⊢
      · rw [Int.mul_one]; exact sg_congr ⟨a * k, by grind⟩
      · have : sg n (a * b * x) = sg n (-(a * ar n (b * x))) := sg_congr ⟨a * k, by grind⟩
        rw [this, sg_neg hn ho hne]; omega
    · have hab : Int.gcd (a * b) n ≠ 1 := by rw [Int.gcd_mul_right_left_of_gcd_eq_one ha]; exact hb
      rw [jac_zero_iff.2 hab, jac_zero_iff.2 hb, Int.mul_zero]
  · have hab : Int.gcd (a * b) n ≠ 1 := fun h => ha (by
      have h1 : Int.gcd a n ∣ Int.gcd (a * b) n := Int.gcd_dvd_gcd_mul_right_left a n b
      rw [h] at h1; exact Nat.dvd_one.1 h1)
    rw [jac_zero_iff.2 hab, jac_zero_iff.2 ha, Int.zero_mul]
theorem jac_one (n : Int) : jac 1 n = 1 := by
  unfold jac; rw [if_pos (by simp)]
  rw [prodI_map_congr (g := fun _ => 1), prodI_map_one]
  intro x hx
  have hx := mem_half hx
  unfold sg; rw [Int.one_mul, Int.emod_eq_of_lt (by omega) (by omega), if_pos hx.2]
theorem prod_const_neg : ∀ (l : List Nat), prodI (l.map fun _ => (-1 : Int)) = par l.length
  | [] => rfl
  | x :: t => by
    simp only [List.map_cons, prodI_cons, prod_const_neg t, List.length_cons]
    have := par_add t.length 1
    have e : par 1 = -1 := rfl
    rw [Int.natCast_add, Int.natCast_one, this, e, Int.mul_comm]
theorem jac_neg_one {n : Int} (hn : 0 < n) (ho : n % 2 = 1) : jac (-1) n = par ((n - 1) / 2) := by
  unfold jac; rw [if_pos (by simp)]
  rw [prodI_map_congr (g := fun _ => -1), prod_const_neg]
  · simp; congr 1; omega
  · intro x hx
    have hx := mem_half hx
    rw [Int.neg_one_mul, sg_neg hn ho (by rw [Int.emod_eq_of_lt (by omega) (by omega)]; omega)]
    unfold sg; rw [Int.emod_eq_of_lt (by omega) (by omega), if_pos hx.2]
/-- signs up to a place -/
theorem prod_upto (q : Int) : ∀ k : Nat, 0 ≤ q → prodI ((List.range' 1 k).map fun y : Nat => if (y : Int) ≤ q then -1 else 1) = par (if q ≤ k then q else k)
  | 0, hq => by
    simp only [List.range'_zero, List.map_nil, prodI_nil]
    split
    · have : q = 0 := by omega
      subst this; rfl
    · rfl
  | k + 1, hq => by
    rw [List.range'_1_concat, List.map_append, prodI_append, prod_upto q k hq]
    simp only [List.map_cons, List.map_nil, prodI_cons, prodI_nil, Int.mul_one]
    by_cases h : q ≤ k
    · rw [if_pos h, if_neg (by omega), if_pos (by omega), Int.mul_one]
    · rw [if_neg h, if_pos (by omega)]
      have e1 : par ((k : Int) + 1) = par k * -1 := par_add k 1
      by_cases h2 : q ≤ ((k + 1 : Nat) : Int)
      · rw [if_pos h2, ← e1]; congr 1; omega
      · rw [if_neg h2, ← e1]; congr 1
theorem jac_two {n : Int} (hn : 0 < n) (ho : n % 2 = 1) : jac 2 n = if n % 8 = 1 ∨ n % 8 = 7 then 1 else -1 := by
  have hg : Int.gcd 2 n = 1 := by
    rw [Int.gcd_comm, Int.gcd_eq_one_iff]
    intro c hc hc2
    obtain ⟨k, hk⟩ := hc
    have hc1 : c ∣ 2 * (n / 2) := Int.dvd_trans hc2 ⟨n / 2, rfl⟩
    have : n - 2 * (n / 2) = 1 := by omega
    rw [← this]; exact Int.dvd_sub ⟨k, hk⟩ hc1
  unfold jac; rw [if_pos hg]
  have key : prodI ((List.range' 1 ((n - 1) / 2).toNat).map fun x : Nat => sg n (2 * x)) = par ((n - 1) / 2) * par (n / 4) := by
    have h1 := prod_upto (n / 4) ((n - 1) / 2).toNat (by omega)
    rw [if_pos (by omega)] at h1
    have h2 := prod_const_neg (List.range' 1 ((n - 1) / 2).toNat)
    rw [List.length_range', Int.toNat_of_nonneg (by omega)] at h2
    rw [← h1, ← h2, ← prodI_map_mul]
    apply prodI_map_congr
    intro x hx
    have hx := mem_half hx
    unfold sg; rw [Int.emod_eq_of_lt (by omega) (by omega)]
    split <;> split <;> omega
  rw [key, ← par_add]
  obtain ⟨k, hk⟩ : ∃ k, k = n / 8 := ⟨_, rfl⟩
  have h8 : n = 8 * k + 1 ∨ n = 8 * k + 3 ∨ n = 8 * k + 5 ∨ n = 8 * k + 7 := by omega
  clear key hk
  unfold par
  rcases h8 with rfl | rfl | rfl | rfl
  · rw [if_pos (by omega), if_pos (by omega)]
  · rw [if_neg (by omega), if_neg (by omega)]
  · rw [if_neg (by omega), if_neg (by omega)]
  · rw [if_pos (by omega), if_pos (by omega)]
/-- odd numbers above: the sign by the quotients -/
theorem jac_quot {a n : Int} (hn : 0 < n) (ho : n % 2 = 1) (hg : Int.gcd a n = 1) (ha : a % 2 = 1) :
    jac a n = prodI ((List.range' 1 ((n - 1) / 2).toNat).map fun x : Nat => par (a * x / n)) := by
  have h1 : jac a n = prodI ((List.range' 1 ((n - 1) / 2).toNat).map fun x : Nat => (par (a * x / n) * par x) * par (ar n (a * x))) := by
    unfold jac; rw [if_pos hg]
    apply prodI_map_congr
    intro x hx
    have hx := mem_half hx
    have h := Int.mul_ediv_add_emod (a * x) n
    have e1 : n * (a * x / n) % 2 = (a * x / n) % 2 := by rw [Int.mul_emod, ho, Int.one_mul, Int.emod_emod]
    have e2 : a * x % 2 = x % 2 := by rw [Int.mul_emod, ha, Int.one_mul, Int.emod_emod]
    rw [← par_add, ← par_add]
    unfold sg ar par
    split <;> split <;> omega
  rw [h1, prodI_map_mul, prodI_map_mul, prod_ar hn ho hg par, Int.mul_assoc, ← prodI_map_mul,
    prodI_map_congr (f := fun x : Nat => par x * par x) (g := fun _ => 1) (fun x _ => par_sq _), prodI_map_one, Int.mul_one]
/-- reciprocity -/
theorem jac_recip {a n : Int} (hn : 0 < n) (ho : n % 2 = 1) (ha : 0 < a) (hao : a % 2 = 1) (hg : Int.gcd a n = 1) :
    jac a n * jac n a = par ((a - 1) / 2 * ((n - 1) / 2)) := by
  have hg' : Int.gcd n a = 1 := by rw [Int.gcd_comm]; exact hg
  have key : ∀ {a n : Int}, 0 < n → n % 2 = 1 → 0 < a → a % 2 = 1 → Int.gcd a n = 1 →
      jac a n = prodI ((List.range' 1 ((n - 1) / 2).toNat).map fun x : Nat => prodI ((List.range' 1 ((a - 1) / 2).toNat).map fun y : Nat => if n * y < a * x then -1 else 1)) := by
    intro a n hn ho ha hao hg
    rw [jac_quot hn ho hg hao]
    apply prodI_map_congr
    intro x hx
    have hx := mem_half hx
    have hne := mul_emod_ne hg hx.1 hx.2
    have hq0 : 0 ≤ a * x / n := Int.ediv_nonneg (Int.mul_nonneg (by omega) (by omega)) (by omega)
    have h := Int.mul_ediv_add_emod (a * x) n
    have h3 := Int.emod_nonneg (a * x) (by omega : n ≠ 0)
    have h4 := Int.emod_lt_of_pos (a * x) hn
    have hq1 : a * x / n ≤ (a - 1) / 2 := by
      have h5 : a * (2 * x) ≤ a * (n - 1) := Int.mul_le_mul_of_nonneg_left (by omega) (by omega)
      have h6 : n * (2 * (a * x / n)) < n * a := by grind
      have h7 := Int.lt_of_mul_lt_mul_left h6 (by omega)
      omega
    have hp := prod_upto (a * x / n) ((a - 1) / 2).toNat hq0
    rw [if_pos (by omega)] at hp
    rw [← hp]
    apply prodI_map_congr
    intro y hy
    have hy := mem_half hy
    by_cases hc : (y : Int) ≤ a * x / n
    · have := Int.mul_le_mul_of_nonneg_left hc (by omega : 0 ≤ n)
      rw [if_pos hc, if_pos (by omega)]
    · have := Int.mul_le_mul_of_nonneg_left (show a * x / n + 1 ≤ y by omega) (by omega : 0 ≤ n)
      rw [Int.mul_add] at this
      rw [if_neg hc, if_neg (by omega)]
  rw [key hn ho ha hao hg, key ha hao hn ho hg', prodI_swap (fun x y : Nat => if n * (y : Int) < a * x then (-1 : Int) else 1), ← prodI_map_mul]
  have hall : ∀ y ∈ List.range' 1 ((a - 1) / 2).toNat, (prodI ((List.range' 1 ((n - 1) / 2).toNat).map fun x : Nat => if n * (y : Int) < a * x then (-1 : Int) else 1) *
      prodI ((List.range' 1 ((n - 1) / 2).toNat).map fun x : Nat => if a * (x : Int) < n * y then (-1 : Int) else 1)) = par ((n - 1) / 2) := by
    intro y hy
    have hy := mem_half hy
    rw [← prodI_map_mul, prodI_map_congr (g := fun _ => -1), prod_const_neg, List.length_range', Int.toNat_of_nonneg (by omega)]
    intro x hx
    have hx := mem_half hx
    have hne : a * (x : Int) ≠ n * y := by
      intro e
      have := mul_emod_ne hg hx.1 hx.2
      rw [e] at this; simp at this
    split <;> split <;> omega
  rw [prodI_map_congr hall]
  have hc : ∀ l : List Nat, prodI (l.map fun _ => par ((n - 1) / 2)) = par (l.length * ((n - 1) / 2)) := by
    intro l; induction l with
    | nil => simp [par]
    | cons x t ih =>
      simp only [List.map_cons, prodI_cons, ih, List.length_cons]
      rw [Int.natCast_add, Int.natCast_one, Int.add_mul, par_add, Int.one_mul, Int.mul_comm]
  rw [hc, List.length_range', Int.toNat_of_nonneg (by omega)]
/-- the symbol is multiplicative below -/
theorem jac_mul_below {a m n : Int} (hm : 0 < m) (hmo : m % 2 = 1) (hn : 0 < n) (hno : n % 2 = 1) : jac a (m * n) = jac a m * jac a n := by
  have hmn : 0 < m * n := Int.mul_pos hm hn
  have hmno : m * n % 2 = 1 := by rw [Int.mul_emod, hmo, hno]; rfl
  have hgg : ∀ a : Int, Int.gcd a (m * n) = 1 ↔ Int.gcd a m = 1 ∧ Int.gcd a n = 1 := by
    intro a
    constructor
    · intro h
      constructor
      · have h1 : Int.gcd a m ∣ Int.gcd a (m * n) := Int.gcd_dvd_gcd_mul_right_right a m n
        rw [h] at h1; exact Nat.dvd_one.1 h1
      · have h1 : Int.gcd a n ∣ Int.gcd a (m * n) := Int.gcd_dvd_gcd_mul_left_right a n m
        rw [h] at h1; exact Nat.dvd_one.1 h1
    · rintro ⟨h1, h2⟩
      rw [Int.gcd_mul_right_right_of_gcd_eq_one h1]; exact h2
  have key : ∀ a : Int, 0 < a → a % 2 = 1 → jac a (m * n) = jac a m * jac a n := by
    intro a ha hao
    by_cases hg : Int.gcd a (m * n) = 1
    · obtain ⟨g1, g2⟩ := (hgg a).1 hg
      have r0 := jac_recip hmn hmno ha hao hg
      have r1 := jac_recip hm hmo ha hao g1
      have r2 := jac_recip hn hno ha hao g2
      rw [jac_mul ha hao] at r0
      have s1 := jac_sq (a := m) (n := a) (by rw [Int.gcd_comm]; exact g1)
      have s2 := jac_sq (a := n) (n := a) (by rw [Int.gcd_comm]; exact g2)
      have hp : par ((a - 1) / 2 * ((m * n - 1) / 2)) = par ((a - 1) / 2 * ((m - 1) / 2)) * par ((a - 1) / 2 * ((n - 1) / 2)) := by
        rw [← par_add, ← Int.mul_add]
        apply par_congr
        rw [Int.mul_emod, Int.mul_emod ((a - 1) / 2) ((m - 1) / 2 + (n - 1) / 2)]
        congr 2
        obtain ⟨u, hu⟩ : ∃ u, m = 2 * u + 1 := ⟨m / 2, by omega⟩
        obtain ⟨v, hv⟩ : ∃ v, n = 2 * v + 1 := ⟨n / 2, by omega⟩
        have : m * n = 2 * (2 * (u * v) + u + v) + 1 := by subst hu hv; grind
        omega
      have e : jac a (m * n) = (jac a (m * n) * (jac m a * jac n a)) * ((jac m a * jac m a) * (jac n a * jac n a)) * (jac m a * jac n a) := by
        rw [s1, s2]; grind
      rw [r0, hp, ← r1, ← r2] at e
      rw [e]; grind
    · rw [jac_zero_iff.2 hg]
      by_cases g1 : Int.gcd a m = 1
      · have : ¬ Int.gcd a n = 1 := fun g2 => hg ((hgg a).2 ⟨g1, g2⟩)
        rw [jac_zero_iff.2 this, Int.mul_zero]
      · rw [jac_zero_iff.2 g1, Int.zero_mul]
  have h0 := Int.emod_nonneg a (by omega : m * n ≠ 0)
  have hq := Int.mul_ediv_add_emod a (m * n)
  by_cases hb : a % (m * n) % 2 = 1
  · have hd : m * n ∣ a - a % (m * n) := ⟨a / (m * n), by grind⟩
    rw [jac_congr hd, jac_congr (Int.dvd_trans ⟨n, rfl⟩ hd), jac_congr (n := n) (Int.dvd_trans ⟨m, Int.mul_comm _ _⟩ hd)]
    exact key _ (by omega) hb
  · have hd : m * n ∣ a - (a % (m * n) + m * n) := ⟨a / (m * n) - 1, by grind⟩
    rw [jac_congr hd, jac_congr (Int.dvd_trans ⟨n, rfl⟩ hd), jac_congr (n := n) (Int.dvd_trans ⟨m, Int.mul_comm _ _⟩ hd)]
    exact key _ (by omega) (by omega)
end Go.Proofs.Ytkodhpjmmiapaaa.M
