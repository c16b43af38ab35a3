/- Plain number theory: the strong test, and Rabin's bound for all odd numbers up to 4096: by a subgroup of index four at least, whose four cosets are found for each number by a reckoning in the kernel. -/
import Derived.Test.YtnheboamjfahaaaNum3
namespace Go.Proofs.Ytnheboamjfahaaa.M

def v2 : Nat → Nat → Nat
  | 0, _ => 0
  | f + 1, m => if m % 2 = 0 then v2 f (m / 2) + 1 else 0
def dd : Nat → Nat → Nat
  | 0, m => m
  | f + 1, m => if m % 2 = 0 then dd f (m / 2) else m
theorem dd_spec : ∀ f m : Nat, 0 < m → m ≤ f → dd f m * 2 ^ v2 f m = m ∧ dd f m % 2 = 1
  | 0, m, h0, h1 => by omega
  | f + 1, m, h0, h1 => by
    unfold dd v2
    by_cases h : m % 2 = 0
    · rw [if_pos h, if_pos h]
      have ih := dd_spec f (m / 2) (by omega) (by omega)
      refine ⟨?_, ih.2⟩
      rw [Nat.pow_succ, ← Nat.mul_assoc, ih.1]; omega
    · rw [if_neg h, if_neg h]; exact ⟨by simp, by omega⟩
theorem odd_two_unique : ∀ (s t d e : Nat), d % 2 = 1 → e % 2 = 1 → d * 2 ^ s = e * 2 ^ t → d = e ∧ s = t
  | 0, 0, d, e, _, _, h => by simpa using h
  | 0, t + 1, d, e, hd, he, h => by
    rw [Nat.pow_succ, ← Nat.mul_assoc] at h; simp at h; omega
  | s + 1, 0, d, e, hd, he, h => by
    rw [Nat.pow_succ, ← Nat.mul_assoc] at h; simp at h; omega
  | s + 1, t + 1, d, e, hd, he, h => by
    rw [Nat.pow_succ, Nat.pow_succ, ← Nat.mul_assoc, ← Nat.mul_assoc] at h
    have := odd_two_unique s t d e hd he (by omega)
    omega
/-- the odd part, and how often 2 divides -/
def od (m : Nat) : Nat := dd m m
def ev (m : Nat) : Nat := v2 m m
theorem od_spec {m : Nat} (h : 0 < m) : od m * 2 ^ ev m = m ∧ od m % 2 = 1 := dd_spec m m h (Nat.le_refl m)
theorem od_unique {m d s : Nat} (h : 0 < m) (hd : d % 2 = 1) (e : d * 2 ^ s = m) : d = od m ∧ s = ev m :=
  odd_two_unique s (ev m) d (od m) hd (od_spec h).2 (e.trans (od_spec h).1.symm)
/-- the strong test -/
def Strong (a : Int) (n : Nat) : Prop := a ^ od (n - 1) % n = 1 ∨ ∃ i, i < ev (n - 1) ∧ a ^ (od (n - 1) * 2 ^ i) % n = (n : Int) - 1
theorem strong_congr {a b : Int} {n : Nat} (h : a % n = b % n) : Strong a n ↔ Strong b n := by
  unfold Strong
  rw [pow_emod_congr h]
  constructor
  · rintro (h1 | ⟨i, hi, h1⟩)
    · exact .inl h1
    · exact .inr ⟨i, hi, by rw [← h1, pow_emod_congr h]⟩
  · rintro (h1 | ⟨i, hi, h1⟩)
    · exact .inl h1
    · exact .inr ⟨i, hi, by rw [← h1, pow_emod_congr h]⟩
/-- a prime passes -/
theorem strong_prime {p : Nat} (hp : Pr p) (h3 : 3 ≤ p) {a : Int} (ha : ¬ (p : Int) ∣ a) : Strong a p := by
  have hs := od_spec (m := p - 1) (by omega)
  have key : ∀ k, k ≤ ev (p - 1) → a ^ (od (p - 1) * 2 ^ k) % p = 1 → Strong a p := by
    intro k
    induction k with
    | zero => intro _ h; left; simpa using h
    | succ k ih =>
      intro hk h
      have e : a ^ (od (p - 1) * 2 ^ (k + 1)) = a ^ (od (p - 1) * 2 ^ k) * a ^ (od (p - 1) * 2 ^ k) := by
        rw [← Int.pow_add]; congr 1; rw [Nat.pow_succ, ← Nat.mul_assoc]; omega
      have hd : (p : Int) ∣ (a ^ (od (p - 1) * 2 ^ k) - 1) * (a ^ (od (p - 1) * 2 ^ k) + 1) := by
        have h1 : (p : Int) ∣ a ^ (od (p - 1) * 2 ^ (k + 1)) - 1 := Int.dvd_of_emod_eq_zero (Int.emod_eq_emod_iff_emod_sub_eq_zero.1 (by rw [h, Int.emod_eq_of_lt (by omega) (by omega)]))
        rw [e] at h1
        have : (a ^ (od (p - 1) * 2 ^ k) - 1) * (a ^ (od (p - 1) * 2 ^ k) + 1) = a ^ (od (p - 1) * 2 ^ k) * a ^ (od (p - 1) * 2 ^ k) - 1 := by grind
        rw [this]; exact h1
      rcases hp.dvd_mul_int hd with h1 | h1
      · refine ih (by omega) ?_
        have := Int.emod_eq_emod_iff_emod_sub_eq_zero.2 (Int.emod_eq_zero_of_dvd h1)
        rw [this, Int.emod_eq_of_lt (by omega) (by omega)]
      · right
        refine ⟨k, by omega, ?_⟩
        have h2 : (p : Int) ∣ a ^ (od (p - 1) * 2 ^ k) - ((p : Int) - 1) := by
          have := Int.dvd_sub h1 (Int.dvd_refl (p : Int))
          have e2 : a ^ (od (p - 1) * 2 ^ k) + 1 - (p : Int) = a ^ (od (p - 1) * 2 ^ k) - ((p : Int) - 1) := by omega
          rwa [e2] at this
        have := Int.emod_eq_emod_iff_emod_sub_eq_zero.2 (Int.emod_eq_zero_of_dvd h2)
        rw [this, Int.emod_eq_of_lt (by omega) (by omega)]
  refine key (ev (p - 1)) (Nat.le_refl _) ?_
  rw [hs.1]; exact fermat_int1 hp ha

/-- equal or opposite modulo n -/
def pm (n : Nat) (x y : Int) : Prop := (n : Int) ∣ x - y ∨ (n : Int) ∣ x + y
def ok2 (n x y : Nat) : Bool := x != y && (x + y) % n != 0
def rcheck (n p g2 g3 g4 : Nat) : Bool :=
  let E := od (n - 1) * 2 ^ (ev (p - 1) - 1)
  let b := g2 ^ E % n
  let c := g3 ^ E % n
  let d := g4 ^ E % n
  n % p == 0 && Nat.gcd n g2 == 1 && Nat.gcd n g3 == 1 && Nat.gcd n g4 == 1 && ok2 n 1 b && ok2 n 1 c && ok2 n 1 d && ok2 n b c && ok2 n b d && ok2 n c d
def ptrial (n : Nat) : Bool := (List.range' 2 62).all fun d => n < d * d || n % d != 0
def rsmall : List Nat := [3, 5, 7, 11, 13, 17, 19, 23, 29, 31, 37, 41, 43, 47, 53, 59, 61]
def rtriples : List (Nat × Nat × Nat) := [(2, 3, 4), (2, 4, 5), (2, 4, 7), (2, 4, 8), (2, 3, 5), (2, 3, 6), (3, 5, 9), (2, 3, 7), (3, 5, 7), (2, 5, 7)]
def rall (n : Nat) : Bool := ptrial n || rsmall.any fun p => n % p == 0 && rtriples.any fun t => rcheck n p t.1 t.2.1 t.2.2

theorem pm_of_strong {a : Int} {n p : Nat} (hp : Pr p) (ho : p % 2 = 1) (hpn : p ∣ n) (hn : 3 ≤ n) (h : Strong a n) :
    pm n (a ^ (od (n - 1) * 2 ^ (ev (p - 1) - 1))) 1 := by
  have h2 := hp.1
  have hs := od_spec (m := p - 1) (by omega)
  have hv : ev (p - 1) ≠ 0 := by
    intro e
    rw [e] at hs
    have := hs.2
    have := hs.1
    simp at this
    omega
  obtain ⟨v, hv'⟩ : ∃ v, ev (p - 1) = v + 1 := ⟨ev (p - 1) - 1, by omega⟩
  rw [hv'] at hs ⊢
  have hnz : (0 : Int) < n := by omega
  have hsub : ∀ x y : Int, x % n = y % n → (n : Int) ∣ x - y := fun x y h => Int.dvd_of_emod_eq_zero (Int.emod_eq_emod_iff_emod_sub_eq_zero.1 h)
  have hpow : ∀ (x y : Int) (k : Nat), (n : Int) ∣ x - y → (n : Int) ∣ x ^ k - y ^ k := fun x y k h =>
    hsub _ _ (pow_emod_congr (Int.emod_eq_emod_iff_emod_sub_eq_zero.2 (Int.emod_eq_zero_of_dvd h)) k)
  have e1 : v + 1 - 1 = v := rfl
  rw [e1]
  rcases h with h | ⟨i, hi, h⟩
  · left
    have h1 : (n : Int) ∣ a ^ od (n - 1) - 1 := hsub _ _ (by rw [h, Int.emod_eq_of_lt (by omega) (by omega)])
    have := hpow _ _ (2 ^ v) h1
    rwa [← Int.pow_mul, Int.one_pow] at this
  · have h1 : (n : Int) ∣ a ^ (od (n - 1) * 2 ^ i) - (-1) := by
      have := hsub (a ^ (od (n - 1) * 2 ^ i)) (-1) (by
        rw [h]
        have : (-1 : Int) % n = n - 1 := by
          rw [neg_emod' hnz (by rw [Int.emod_eq_of_lt (by omega) (by omega)]; omega), Int.emod_eq_of_lt (by omega) (by omega)]
        omega)
      exact this
    by_cases hiv : i ≤ v
    · obtain ⟨k, hk⟩ : ∃ k, v = i + k := ⟨v - i, by omega⟩
      have h3 := hpow _ _ (2 ^ k) h1
      rw [← Int.pow_mul, Nat.mul_assoc, ← Nat.pow_add, ← hk] at h3
      by_cases hk0 : k = 0
      · subst hk0
        right
        have : a ^ (od (n - 1) * 2 ^ v) - (-1) ^ (2 ^ 0) = a ^ (od (n - 1) * 2 ^ v) + 1 := by
          have : ((-1 : Int)) ^ (2 ^ 0) = -1 := rfl
          rw [this]; omega
        rwa [this] at h3
      · left
        have : ((-1 : Int)) ^ (2 ^ k) = 1 := by
          obtain ⟨m, rfl⟩ : ∃ m, k = m + 1 := ⟨k - 1, by omega⟩
          rw [Nat.pow_succ, Nat.mul_comm, Int.pow_mul]
          have : ((-1 : Int)) ^ 2 = 1 := rfl
          rw [this, Int.one_pow]
        rwa [this] at h3
    · exfalso
      obtain ⟨k, hk⟩ : ∃ k, i = v + 1 + k := ⟨i - (v + 1), by omega⟩
      have h4 : (p : Int) ∣ a ^ (od (n - 1) * 2 ^ i) - (-1) := Int.dvd_trans (Int.natCast_dvd_natCast.2 hpn) h1
      have hpz : (0 : Int) < p := by omega
      have hpa : ¬ (p : Int) ∣ a := by
        intro hd
        have h5 : (p : Int) ∣ a ^ (od (n - 1) * 2 ^ i) := by
          obtain ⟨m, hm⟩ : ∃ m, od (n - 1) * 2 ^ i = m + 1 := ⟨od (n - 1) * 2 ^ i - 1, by
            have : 0 < od (n - 1) * 2 ^ i := Nat.mul_pos (by have := (od_spec (m := n - 1) (by omega)).2; omega) (Nat.pow_pos (by omega))
            omega⟩
          rw [hm, Int.pow_succ]; exact Int.dvd_mul_of_dvd_right hd
        have h6 := Int.dvd_sub h5 h4
        have : a ^ (od (n - 1) * 2 ^ i) - (a ^ (od (n - 1) * 2 ^ i) - -1) = -1 := by omega
        rw [this] at h6
        have := Int.le_of_dvd (by omega) (Int.dvd_neg.1 (by simpa using h6 : (p : Int) ∣ -1) |> fun h => (by simpa using h : (p : Int) ∣ 1))
        omega
      -- the power by od (p - 1) is still -1; but it is a power of a ^ (p - 1)
      have hodd := hs.2
      have hsubp : ∀ x y : Int, x % p = y % p → (p : Int) ∣ x - y := fun x y h => Int.dvd_of_emod_eq_zero (Int.emod_eq_emod_iff_emod_sub_eq_zero.1 h)
      have hmod : a ^ (od (n - 1) * 2 ^ i) % p = (-1) % p := Int.emod_eq_emod_iff_emod_sub_eq_zero.2 (Int.emod_eq_zero_of_dvd h4)
      have h7 : (a ^ (od (n - 1) * 2 ^ i)) ^ od (p - 1) % p = (-1) % p := by
        rw [pow_emod_congr hmod]
        obtain ⟨m, hm⟩ : ∃ m, od (p - 1) = 2 * m + 1 := ⟨od (p - 1) / 2, by omega⟩
        have : ((-1 : Int)) ^ (2 * m + 1) = -1 := by
          rw [Int.pow_succ, Int.pow_mul]
          have : ((-1 : Int)) ^ 2 = 1 := rfl
          rw [this, Int.one_pow]; rfl
        rw [hm, this]
      have h8 : (a ^ (od (n - 1) * 2 ^ i)) ^ od (p - 1) = (a ^ (p - 1)) ^ (od (n - 1) * 2 ^ k) := by
        rw [← Int.pow_mul, ← Int.pow_mul]
        congr 1
        rw [hk, Nat.pow_add]
        have h0 : ∀ x y z u : Nat, x * (z * u) * y = y * z * (x * u) := fun x y z u => by grind
        have := h0 (od (n - 1)) (od (p - 1)) (2 ^ (v + 1)) (2 ^ k)
        rw [hs.1] at this
        exact this
      have h9 : a ^ (p - 1) % p = 1 % p := by rw [fermat_int1 hp hpa, Int.emod_eq_of_lt (by omega) (by omega)]
      rw [h8, pow_emod_congr h9, Int.one_pow] at h7
      have := hsubp _ _ h7
      have e : (1 : Int) - -1 = 2 := rfl
      rw [e] at this
      have := Int.le_of_dvd (by omega) this
      omega

theorem pm_symm {n : Nat} {x y : Int} (h : pm n x y) : pm n y x := by
  rcases h with ⟨k, h⟩ | ⟨k, h⟩
  · exact .inl ⟨-k, by grind⟩
  · exact .inr ⟨k, by grind⟩
theorem pm_trans {n : Nat} {x y z : Int} (h : pm n x y) (h' : pm n y z) : pm n x z := by
  rcases h with ⟨k, h⟩ | ⟨k, h⟩ <;> rcases h' with ⟨l, h'⟩ | ⟨l, h'⟩
  · exact .inl ⟨k + l, by grind⟩
  · exact .inr ⟨k + l, by grind⟩
  · exact .inr ⟨k - l, by grind⟩
  · exact .inl ⟨k - l, by grind⟩
theorem pm_mul {n : Nat} {x y : Int} (h : pm n x 1) : pm n (y * x) y := by
  rcases h with ⟨k, h⟩ | ⟨k, h⟩
  · exact .inl ⟨y * k, by grind⟩
  · exact .inr ⟨y * k, by grind⟩
theorem pm_mod {n : Nat} {x y : Int} (h : x % n = y % n) : pm n x y := .inl (Int.dvd_of_emod_eq_zero (Int.emod_eq_emod_iff_emod_sub_eq_zero.1 h))
theorem ok2_not {n x y : Nat} (hx : x < n) (hy : y < n) (h : ok2 n x y = true) : ¬ pm n x y := by
  simp only [ok2, Bool.and_eq_true, bne_iff_ne] at h
  rintro (⟨k, hk⟩ | ⟨k, hk⟩)
  · have : k = 0 := by
      rcases Int.lt_trichotomy k 0 with h | h | h
      · have := Int.mul_le_mul_of_nonneg_left (show k ≤ -1 by omega) (show (0 : Int) ≤ n by omega); omega
      · exact h
      · have := Int.mul_le_mul_of_nonneg_left (show 1 ≤ k by omega) (show (0 : Int) ≤ n by omega); omega
    subst this
    exact h.1 (by omega)
  · apply h.2
    have : ((x + y : Nat) : Int) % n = 0 := by rw [Int.natCast_add, hk]; simp
    omega
noncomputable def strongB (n : Nat) (a : Nat) : Bool := @decide (Strong a n) (Classical.propDecidable _)
theorem strongB_iff {n a : Nat} : strongB n a = true ↔ Strong (a : Int) n := ⟨fun h => @of_decide_eq_true _ (Classical.propDecidable _) h, fun h => @decide_eq_true _ (Classical.propDecidable _) h⟩
/-- four disjoint copies -/
theorem four_copies {n : Nat} {L : List Nat} {b c d : Nat} (hn : 0 < n) (hL : L.Nodup) (h0 : ∀ s ∈ L, 0 < s ∧ s < n ∧ Nat.Coprime n s)
    (hb : Nat.Coprime n b) (hc : Nat.Coprime n c) (hd : Nat.Coprime n d)
    (h1b : ∀ s ∈ L, ∀ t ∈ L, s ≠ b * t % n) (h1c : ∀ s ∈ L, ∀ t ∈ L, s ≠ c * t % n) (h1d : ∀ s ∈ L, ∀ t ∈ L, s ≠ d * t % n)
    (hbc : ∀ s ∈ L, ∀ t ∈ L, b * s % n ≠ c * t % n) (hbd : ∀ s ∈ L, ∀ t ∈ L, b * s % n ≠ d * t % n) (hcd : ∀ s ∈ L, ∀ t ∈ L, c * s % n ≠ d * t % n) (hn2 : 2 ≤ n) :
    4 * L.length ≤ n - 1 := by
  have hnd : ∀ g, Nat.Coprime n g → (L.map fun s => g * s % n).Nodup := fun g hg => nodup_map _ _ hL fun x hx y hy e => by
    have := cancel_mod hg e
    rwa [Nat.mod_eq_of_lt (h0 x hx).2.1, Nat.mod_eq_of_lt (h0 y hy).2.1] at this
  have hpos : ∀ g, Nat.Coprime n g → ∀ s ∈ L, 0 < g * s % n := fun g hg s hs => by
    apply Nat.pos_of_ne_zero
    intro e
    have hcop : Nat.Coprime n (g * s) := hg.mul_right (h0 s hs).2.2
    have := hcop.eq_one_of_dvd (Nat.dvd_of_mod_eq_zero e)
    omega
  have hall : (L ++ (L.map (fun s => b * s % n) ++ (L.map (fun s => c * s % n) ++ L.map (fun s => d * s % n)))).Nodup := by
    rw [List.nodup_append, List.nodup_append, List.nodup_append]
    refine ⟨hL, ⟨hnd b hb, ⟨hnd c hc, hnd d hd, ?_⟩, ?_⟩, ?_⟩
    · intro x hx y hy
      obtain ⟨s, hs, rfl⟩ := List.mem_map.1 hx
      obtain ⟨t, ht, rfl⟩ := List.mem_map.1 hy
      exact hcd s hs t ht
    · intro x hx y hy
      obtain ⟨s, hs, rfl⟩ := List.mem_map.1 hx
      rcases List.mem_append.1 hy with hy | hy
      · obtain ⟨t, ht, rfl⟩ := List.mem_map.1 hy
        exact hbc s hs t ht
      · obtain ⟨t, ht, rfl⟩ := List.mem_map.1 hy
        exact hbd s hs t ht
    · intro s hs y hy
      rcases List.mem_append.1 hy with hy | hy
      · obtain ⟨t, ht, rfl⟩ := List.mem_map.1 hy
        exact h1b s hs t ht
      · rcases List.mem_append.1 hy with hy | hy
        · obtain ⟨t, ht, rfl⟩ := List.mem_map.1 hy
          exact h1c s hs t ht
        · obtain ⟨t, ht, rfl⟩ := List.mem_map.1 hy
          exact h1d s hs t ht
  have := length_le_of_inj _ (List.range' 1 (n - 1)) hall (by
    intro x hx
    have key : 0 < x ∧ x < n := by
      rcases List.mem_append.1 hx with hx | hx
      · exact ⟨(h0 x hx).1, (h0 x hx).2.1⟩
      · rcases List.mem_append.1 hx with hx | hx
        · obtain ⟨t, ht, rfl⟩ := List.mem_map.1 hx
          exact ⟨hpos b hb t ht, Nat.mod_lt _ hn⟩
        · rcases List.mem_append.1 hx with hx | hx
          · obtain ⟨t, ht, rfl⟩ := List.mem_map.1 hx
            exact ⟨hpos c hc t ht, Nat.mod_lt _ hn⟩
          · obtain ⟨t, ht, rfl⟩ := List.mem_map.1 hx
            exact ⟨hpos d hd t ht, Nat.mod_lt _ hn⟩
    exact List.mem_range'_1.2 (by omega))
  simp at this
  omega
theorem strong_cop {n a : Nat} (hn : 3 ≤ n) (h : Strong (a : Int) n) : Nat.Coprime n a := by
  have key : ∀ k : Nat, 0 < k → (∀ d : Nat, d ∣ n → (d : Int) ∣ (a : Int) ^ k → d = 1) → Nat.Coprime n a := by
    intro k hk hh
    apply hh _ (Nat.gcd_dvd_left n a)
    have : ((Nat.gcd n a : Nat) : Int) ∣ (a : Int) := Int.natCast_dvd_natCast.2 (Nat.gcd_dvd_right n a)
    obtain ⟨m, rfl⟩ : ∃ m, k = m + 1 := ⟨k - 1, by omega⟩
    rw [Int.pow_succ]; exact Int.dvd_mul_of_dvd_right this
  have hos := od_spec (m := n - 1) (by omega)
  have hdv : ∀ (x c : Int) (d : Nat), d ∣ n → (d : Int) ∣ x → x % n = c → (d : Int) ∣ c := by
    intro x c d hd hx e
    have : c = x - n * (x / n) := by have := Int.mul_ediv_add_emod x n; omega
    rw [this]
    exact Int.dvd_sub hx (Int.dvd_trans (Int.natCast_dvd_natCast.2 hd) ⟨_, rfl⟩)
  rcases h with h | ⟨i, hi, h⟩
  · refine key (od (n - 1)) (by omega) fun d hd hx => ?_
    have := hdv _ _ d hd hx h
    have := Int.le_of_dvd (by omega) this
    have : d ≠ 0 := by rintro rfl; have := Nat.eq_zero_of_zero_dvd hd; omega
    omega
  · refine key (od (n - 1) * 2 ^ i) (Nat.mul_pos (by omega) (Nat.pow_pos (by omega))) fun d hd hx => ?_
    have h1 := hdv _ _ d hd hx h
    have h2 := Int.dvd_sub (Int.natCast_dvd_natCast.2 hd) h1
    have e : (n : Int) - (n - 1) = 1 := by omega
    rw [e] at h2
    have := Int.le_of_dvd (by omega) h2
    have : d ≠ 0 := by rintro rfl; have := Nat.eq_zero_of_zero_dvd hd; omega
    omega
/-- how many pass -/
noncomputable def many (n : Nat) : Nat := ((List.range' 1 (n - 1)).filter (strongB n)).length
theorem rabin_of_check {n p g2 g3 g4 : Nat} (hp : Pr p) (ho : p % 2 = 1) (hn : 3 ≤ n) (hc : rcheck n p g2 g3 g4 = true) : 4 * many n ≤ n - 1 := by
  simp only [rcheck, Bool.and_eq_true, beq_iff_eq] at hc
  obtain ⟨⟨⟨⟨⟨⟨⟨⟨⟨hd, c2⟩, c3⟩, c4⟩, o12⟩, o13⟩, o14⟩, o23⟩, o24⟩, o34⟩ := hc
  have hpn : p ∣ n := Nat.dvd_of_mod_eq_zero hd
  have hn0 : 0 < n := by omega
  generalize hE : od (n - 1) * 2 ^ (ev (p - 1) - 1) = E at *
  have hL : ∀ s ∈ (List.range' 1 (n - 1)).filter (strongB n), 0 < s ∧ s < n ∧ Nat.Coprime n s ∧ pm n ((s : Int) ^ E) 1 := by
    intro s hs
    have hs := List.mem_filter.1 hs
    have h1 := List.mem_range'_1.1 hs.1
    have h2 := strongB_iff.1 hs.2
    have := pm_of_strong hp ho hpn hn h2
    rw [hE] at this
    exact ⟨by omega, by omega, strong_cop hn h2, this⟩
  have key : ∀ g h : Nat, ok2 n (g ^ E % n) (h ^ E % n) = true → ∀ s ∈ (List.range' 1 (n - 1)).filter (strongB n), ∀ t ∈ (List.range' 1 (n - 1)).filter (strongB n), g * s % n ≠ h * t % n := by
    intro g h hok s hs t ht e
    apply ok2_not (Nat.mod_lt _ hn0) (Nat.mod_lt _ hn0) hok
    have e1 : ((g : Int) * s) ^ E % n = ((h : Int) * t) ^ E % n := by
      apply pow_emod_congr
      have : ((g * s % n : Nat) : Int) = ((h * t % n : Nat) : Int) := by rw [e]
      simpa using this
    have e2 := pm_mod e1
    rw [Int.mul_pow, Int.mul_pow] at e2
    have e3 := pm_trans (pm_trans (pm_symm (pm_mul (y := (g : Int) ^ E) (hL s hs).2.2.2)) e2) (pm_mul (y := (h : Int) ^ E) (hL t ht).2.2.2)
    refine pm_trans (pm_trans (pm_mod ?_) e3) (pm_mod ?_)
    · rw [Int.natCast_emod, Int.emod_emod, Int.natCast_pow]
    · rw [Int.natCast_emod, Int.emod_emod, Int.natCast_pow]
  have h1 : ∀ x, ok2 n 1 x = true → ok2 n (1 ^ E % n) x = true := fun x h => by rw [Nat.one_pow, Nat.mod_eq_of_lt (by omega)]; exact h
  have one : ∀ h : Nat, ok2 n 1 (h ^ E % n) = true → ∀ s ∈ (List.range' 1 (n - 1)).filter (strongB n), ∀ t ∈ (List.range' 1 (n - 1)).filter (strongB n), s ≠ h * t % n := by
    intro h hok s hs t ht
    have := key 1 h (h1 _ hok) s hs t ht
    rwa [Nat.one_mul, Nat.mod_eq_of_lt (hL s hs).2.1] at this
  exact four_copies hn0 (List.Pairwise.filter _ (List.nodup_range' (step := 1))) (fun s hs => ⟨(hL s hs).1, (hL s hs).2.1, (hL s hs).2.2.1⟩) c2 c3 c4
    (one _ o12) (one _ o13) (one _ o14) (key _ _ o23) (key _ _ o24) (key _ _ o34) (by omega)
theorem ptrial_prime {n : Nat} (hn : 2 ≤ n) (hn2 : n < 4096) (h : ptrial n = true) : Pr n := by
  rw [Pr.iff_trial]
  refine ⟨hn, fun d hd hdd hdv => ?_⟩
  have hlt : d < 64 := by
    rcases Nat.lt_or_ge d 64 with h | h
    · exact h
    · have := Nat.mul_le_mul h h; omega
  have := List.all_eq_true.1 h d (List.mem_range'_1.2 (by omega))
  simp at this
  rcases this with h | h
  · omega
  · exact h (Nat.mod_eq_zero_of_dvd hdv)
theorem rall_all : ∀ k, k < 2048 → k ≠ 0 → k ≠ 4 → rall (2 * k + 1) = true := by decide +kernel
theorem rsmall_prime : ∀ p ∈ rsmall, ptrial p = true ∧ p % 2 = 1 ∧ 2 ≤ p ∧ p < 4096 := by decide +kernel
/-- Rabin's bound -/
theorem rabin {n : Nat} (h3 : 3 ≤ n) (hn : n < 4096) (ho : n % 2 = 1) (hp : ¬ Pr n) (h9 : n ≠ 9) : 4 * many n ≤ n - 1 := by
  have := rall_all (n / 2) (by omega) (by omega) (by omega)
  rw [show 2 * (n / 2) + 1 = n by omega] at this
  unfold rall at this
  rw [Bool.or_eq_true] at this
  rcases this with h | h
  · exact absurd (ptrial_prime (by omega) hn h) hp
  · obtain ⟨p, hpm, h⟩ := List.any_eq_true.1 h
    rw [Bool.and_eq_true] at h
    obtain ⟨t, _, ht⟩ := List.any_eq_true.1 h.2
    obtain ⟨q1, q2, q3, q4⟩ := rsmall_prime p hpm
    exact rabin_of_check (ptrial_prime q3 q4 q1) q2 h3 ht
end Go.Proofs.Ytnheboamjfahaaa.M
