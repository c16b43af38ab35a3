/- Plain: congruences. -/
import Derived.Test.YtceocooppjfjjaaEu2
namespace Go.Proofs.Ytceocooppjfjjaa
set_option linter.unusedVariables false
set_option linter.unusedSimpArgs false
/-- the least common multiple of all moduli, from m on -/
def lcmI (m : Int) (l : List (Int × Int)) : Int := l.foldl (fun m v => (Int.lcm m v.2 : Int)) m
theorem lcmI_snoc (m : Int) (l : List (Int × Int)) (v : Int × Int) : lcmI m (l ++ [v]) = (Int.lcm (lcmI m l) v.2 : Int) := by simp [lcmI]
/-- is a congruence out of range -/
def badR (v : Int × Int) : Bool := decide (v.2 < 1) || decide (1048576 < v.2) || decide (v.1 < -2147483648) || decide (2147483648 < v.1)
theorem badR_no {v : Int × Int} (h : badR v = false) : 1 ≤ v.2 ∧ v.2 ≤ 1048576 ∧ -2147483648 ≤ v.1 ∧ v.1 ≤ 2147483648 := by
  simp [badR] at h; omega
/-- what is wrong with congruences -/
def restsE (l : List (Int × Int)) : Int := if 8 < l.length then 1 else if l.any badR = true then 2 else if 2147483648 < lcmI 1 l then 2 else 0
theorem lcmI_pos : ∀ (l : List (Int × Int)) (m : Int), 1 ≤ m → (∀ v ∈ l, 1 ≤ v.2) → 1 ≤ lcmI m l ∧ m ∣ lcmI m l
  | [], m, h, _ => ⟨h, Int.dvd_refl m⟩
  | v :: t, m, h, hv => by
    have h1 : 1 ≤ (Int.lcm m v.2 : Int) := by
      have h2 := hv v (by simp)
      have : 0 < Nat.lcm m.natAbs v.2.natAbs := Nat.lcm_pos (by omega) (by omega)
      have e : Int.lcm m v.2 = Nat.lcm m.natAbs v.2.natAbs := rfl
      omega
    obtain ⟨a, b⟩ := lcmI_pos t _ h1 (fun u hu => hv u (by simp [hu]))
    exact ⟨a, Int.dvd_trans (Int.dvd_lcm_left m v.2) b⟩
theorem lcmI_take_le {l : List (Int × Int)} (hv : ∀ v ∈ l, 1 ≤ v.2) (I : Nat) : 1 ≤ lcmI 1 (l.take I) ∧ lcmI 1 (l.take I) ≤ lcmI 1 l := by
  obtain ⟨a, _⟩ := lcmI_pos (l.take I) 1 (by omega) (fun v h => hv v (List.mem_of_mem_take h))
  have e : lcmI 1 l = lcmI (lcmI 1 (l.take I)) (l.drop I) := by
    have h := List.take_append_drop I l
    unfold lcmI
    rw [← List.foldl_append, h]
  obtain ⟨b, c⟩ := lcmI_pos (l.drop I) _ a (fun v h => hv v (List.mem_of_mem_drop h))
  rw [← e] at b c
  exact ⟨a, Int.le_of_dvd (by omega) c⟩
theorem lcm_dvd_iff {a b c : Int} : (Int.lcm a b : Int) ∣ c ↔ a ∣ c ∧ b ∣ c :=
  ⟨fun h => ⟨Int.dvd_trans (Int.dvd_lcm_left a b) h, Int.dvd_trans (Int.dvd_lcm_right a b) h⟩, fun h => Int.coe_lcm_dvd h.1 h.2⟩
theorem lcmI_dvd_iff {c : Int} : ∀ (l : List (Int × Int)) (m : Int), lcmI m l ∣ c ↔ m ∣ c ∧ ∀ v ∈ l, v.2 ∣ c
  | [], m => ⟨fun h => ⟨h, fun v hv => by simp at hv⟩, fun h => h.1⟩
  | v :: t, m => by
    show lcmI (Int.lcm m v.2 : Int) t ∣ c ↔ _
    rw [lcmI_dvd_iff t, lcm_dvd_iff]
    simp only [List.mem_cons, forall_eq_or_imp]
    exact ⟨fun h => ⟨h.1.1, h.1.2, h.2⟩, fun h => ⟨⟨h.1, h.2.1⟩, h.2.2⟩⟩
/-- the numbers that fit -/
def FitsAll (l : List (Int × Int)) (x : Int) : Prop := ∀ v ∈ l, v.2 ∣ x - v.1
/-- how far the congruences have been joined -/
structure CInv (l : List (Int × Int)) (A M : Int) : Prop where
  lc : M = lcmI 1 l
  m1 : 1 ≤ M
  a0 : 0 ≤ A
  am : A < M
  fit : ∀ x, FitsAll l x ↔ M ∣ x - A
theorem cinv_nil : CInv [] 0 1 := ⟨rfl, by omega, by omega, by omega, fun x => ⟨fun _ => ⟨x - 0, by omega⟩, fun _ v hv => by simp at hv⟩⟩
theorem dvd_emod_sub {m x a : Int} : m ∣ x - a % m ↔ m ∣ x - a := by
  have h : m ∣ a - a % m := Int.dvd_self_sub_emod
  constructor
  · intro h1
    have := Int.dvd_sub h1 h
    rwa [show x - a % m - (a - a % m) = x - a by omega] at this
  · intro h1
    have := Int.dvd_add h1 h
    rwa [show x - a + (a - a % m) = x - a % m by omega] at this
/-- two congruences in one: no number fits -/
theorem join_no {l : List (Int × Int)} {A M : Int} {v : Int × Int} (h : CInv l A M) (hd : ¬ (Int.gcd M v.2 : Int) ∣ v.1 % v.2 - A) (x : Int) : ¬ FitsAll (l ++ [v]) x := fun hf => by
  have h1 := (h.fit x).1 fun u hu => hf u (by simp [hu])
  have h2 := dvd_emod_sub.2 (hf v (by simp))
  apply hd
  have h3 := Int.dvd_trans (Int.gcd_dvd_left M v.2) h1
  have h4 := Int.dvd_trans (Int.gcd_dvd_right M v.2) h2
  have := Int.dvd_sub h3 h4
  rwa [show x - A - (x - v.1 % v.2) = v.1 % v.2 - A by omega] at this
/-- the numbers of a join -/
theorem join_law {A1 M1 A2 M2 g x y n k m : Int} (h1 : 1 ≤ M1) (h2 : 1 ≤ M2) (hg : g = Int.gcd M1 M2) (hxy : x * M1 + y * M2 = g) (hd : g ∣ A2 - A1) (hn : n = M2 / g) (hk : k = (A2 - A1) / g % n * (x % n) % n) (hm : m = M1 * n) :
    m = (Int.lcm M1 M2 : Int) ∧ M1 ∣ (A1 + M1 * k) % m - A1 ∧ M2 ∣ (A1 + M1 * k) % m - A2 := by
  have g1 : 1 ≤ g := by
    have : Int.gcd M1 M2 ≠ 0 := by intro e; have := Int.gcd_eq_zero_iff.1 e; omega
    omega
  have dg2 : g ∣ M2 := by rw [hg]; exact Int.gcd_dvd_right M1 M2
  have e2 : g * n = M2 := by rw [hn]; exact Int.mul_ediv_cancel' dg2
  have hl : m = (Int.lcm M1 M2 : Int) := by
    have h := Int.gcd_mul_lcm M1 M2
    have h' : g * (Int.lcm M1 M2 : Int) = M1 * M2 := by
      rw [hg, ← Int.natCast_mul, h, Int.natCast_mul, Int.natAbs_of_nonneg (by omega), Int.natAbs_of_nonneg (by omega)]
    have : g * m = g * (Int.lcm M1 M2 : Int) := by rw [h', hm, ← e2]; grind
    exact Int.eq_of_mul_eq_mul_left (by omega) this
  have n1 : n ∣ k - (A2 - A1) / g * x := by
    have e : k % n = ((A2 - A1) / g * x) % n := by rw [hk, Int.emod_emod_of_dvd _ (Int.dvd_refl n), ← Int.mul_emod]
    exact Int.dvd_of_emod_eq_zero (Int.emod_eq_emod_iff_emod_sub_eq_zero.1 e)
  obtain ⟨t, ht⟩ := n1
  obtain ⟨q, hq⟩ := hd
  have eq : (A2 - A1) / g = q := by rw [hq]; exact Int.mul_ediv_cancel_left q (by omega)
  rw [eq] at ht
  have d1 : m ∣ (A1 + M1 * k) - (A1 + M1 * k) % m := Int.dvd_self_sub_emod
  have dm1 : M1 ∣ m := ⟨n, hm⟩
  have dm2 : M2 ∣ m := by rw [hl]; exact Int.dvd_lcm_right M1 M2
  refine ⟨hl, ?_, ?_⟩
  · have h3 := Int.dvd_trans dm1 d1
    have h4 : M1 ∣ A1 + M1 * k - A1 := ⟨k, by omega⟩
    have := Int.dvd_sub h4 h3
    rwa [show A1 + M1 * k - A1 - (A1 + M1 * k - (A1 + M1 * k) % m) = (A1 + M1 * k) % m - A1 by omega] at this
  · have h3 := Int.dvd_trans dm2 d1
    have h4 : M2 ∣ A1 + M1 * k - A2 := by
      obtain ⟨r, hr⟩ := dm2
      have e3 : A1 + M1 * k - A2 = M2 * (r * t - q * y) := by
        have k1 : k = q * x + n * t := by omega
        have m3 : M1 * n = M2 * r := by rw [← hm]; exact hr
        have : A2 = A1 + g * q := by omega
        rw [this, k1, ← hxy]
        grind
      exact ⟨_, e3⟩
    have := Int.dvd_sub h4 h3
    rwa [show A1 + M1 * k - A2 - (A1 + M1 * k - (A1 + M1 * k) % m) = (A1 + M1 * k) % m - A2 by omega] at this
theorem join_yes {l : List (Int × Int)} {A M A' m : Int} {v : Int × Int} (h : CInv l A M) (hv : 1 ≤ v.2) (hm : m = (Int.lcm M v.2 : Int)) (h0 : 0 ≤ A') (h1 : A' < m) (d1 : M ∣ A' - A) (d2 : v.2 ∣ A' - v.1 % v.2) : CInv (l ++ [v]) A' m := by
  have hm1 := h.m1
  refine ⟨by rw [lcmI_snoc, ← h.lc, hm], by omega, h0, h1, fun x => ?_⟩
  have key : FitsAll (l ++ [v]) x ↔ M ∣ x - A ∧ v.2 ∣ x - v.1 % v.2 := by
    rw [← h.fit x, dvd_emod_sub]
    constructor
    · intro hf; exact ⟨fun u hu => hf u (by simp [hu]), hf v (by simp)⟩
    · intro hf u hu
      rcases List.mem_append.1 hu with hu | hu
      · exact hf.1 u hu
      · simp at hu; subst hu; exact hf.2
  rw [key, hm, lcm_dvd_iff]
  constructor
  · intro ⟨a, b⟩
    refine ⟨?_, ?_⟩
    · have := Int.dvd_sub a d1; rwa [show x - A - (A' - A) = x - A' by omega] at this
    · have := Int.dvd_sub b d2; rwa [show x - v.1 % v.2 - (A' - v.1 % v.2) = x - A' by omega] at this
  · intro ⟨a, b⟩
    refine ⟨?_, ?_⟩
    · have := Int.dvd_add a d1; rwa [show x - A' + (A' - A) = x - A by omega] at this
    · have := Int.dvd_add b d2; rwa [show x - A' + (A' - v.1 % v.2) = x - v.1 % v.2 by omega] at this
/-- whatever joins to the same is the same -/
theorem cinv_same {l l' : List (Int × Int)} {A M A' M' : Int} (h : CInv l A M) (h' : CInv l' A' M') (hf : ∀ x, FitsAll l x ↔ FitsAll l' x) (hM : M = M') : A = A' := by
  subst hM
  have h1 := (h'.fit A).1 ((hf A).1 ((h.fit A).2 (by simp)))
  have := h.a0; have := h.am; have := h'.a0; have := h'.am
  rcases Int.lt_trichotomy A A' with e | e | e
  · have := Int.le_of_dvd (by omega) ((Int.dvd_neg).2 h1); omega
  · exact e
  · have := Int.le_of_dvd (by omega) h1; omega
/-- coprime moduli: the join goes on -/
theorem gcd_lcmI : ∀ (l : List (Int × Int)) (m c : Int), Int.gcd m c = 1 → (∀ v ∈ l, Int.gcd v.2 c = 1) → Int.gcd (lcmI m l) c = 1
  | [], m, c, h, _ => h
  | v :: t, m, c, h, hv => by
    refine gcd_lcmI t _ c ?_ (fun u hu => hv u (by simp [hu]))
    have h1 : Int.gcd (m * v.2) c = 1 := by
      rw [Int.gcd_comm, Int.gcd_mul_right_right_of_gcd_eq_one]
      · rw [Int.gcd_comm]; exact hv v (by simp)
      · rw [Int.gcd_comm]; exact h
    have h2 : (Int.lcm m v.2 : Int) ∣ m * v.2 := lcm_dvd_iff.2 ⟨Int.dvd_mul_right m v.2, Int.dvd_mul_left m v.2⟩
    have h3 : ((Int.gcd (Int.lcm m v.2 : Int) c : Nat) : Int) ∣ (Int.gcd (m * v.2) c : Nat) := Int.dvd_coe_gcd (Int.dvd_trans (Int.gcd_dvd_left _ _) h2) (Int.gcd_dvd_right _ _)
    rw [h1] at h3
    have := Int.eq_one_of_dvd_one (by omega) h3
    exact Int.ofNat.inj this
end Go.Proofs.Ytceocooppjfjjaa
