/- Plain: Pratt's certificates; Lucas. -/
import Derived.Test.YtceocooppjfjjaaOrdM
namespace Go.Proofs.Ytceocooppjfjjaa.M
set_option linter.unusedVariables false
set_option linter.unusedSimpArgs false
theorem gcd_of_one' {a : Int} {n o : Nat} (ho : 0 < o) (h : One a n o) : Int.gcd a n = 1 := by
  have hd : (n : Int) ∣ a ^ o - 1 := Int.dvd_of_emod_eq_zero (Int.emod_eq_emod_iff_emod_sub_eq_zero.1 h)
  have h1 : ((Int.gcd a n : Nat) : Int) ∣ a := Int.gcd_dvd_left ..
  have h2 : ((Int.gcd a n : Nat) : Int) ∣ n := Int.gcd_dvd_right ..
  have h3 : ((Int.gcd a n : Nat) : Int) ∣ a ^ o := by
    obtain ⟨k, rfl⟩ : ∃ k, o = k + 1 := ⟨o - 1, by omega⟩
    rw [Int.pow_succ]; exact Int.dvd_mul_of_dvd_right h1
  have h4 : ((Int.gcd a n : Nat) : Int) ∣ 1 := by
    have := Int.dvd_sub h3 (Int.dvd_trans h2 hd)
    rwa [show a ^ o - (a ^ o - 1) = 1 by omega] at this
  have h5 : Int.gcd a n ∣ 1 := Int.natCast_dvd_natCast.1 h4
  exact Nat.dvd_one.1 h5
/-- Lucas -/
theorem lucas {g : Int} {n : Nat} (h3 : 3 ≤ n) (ho : IsOrd g n (n - 1)) : Pr n := by
  have hg := gcd_of_one' (by omega) ho.2.1
  have hd := ho.2.2 _ (pow_phi_int hg)
  have h1 := phi_le n
  have h2 := phi_pos (show 0 < n by omega)
  obtain ⟨c, hc⟩ := hd
  have hc1 : c = 1 := by
    rcases Nat.lt_or_ge c 2 with h | h
    · rcases Nat.lt_or_ge c 1 with h0 | h0
      · have : c = 0 := by omega
        subst this; omega
      · omega
    · have := Nat.mul_le_mul_left (n - 1) h
      omega
  rw [hc1, Nat.mul_one] at hc
  obtain ⟨p, hp, c, rfl⟩ := exists_prime n (by omega)
  by_cases h1c : c = 1
  · rw [h1c, Nat.mul_one]; exact hp
  · have hp2 := hp.1
    have hc0 : 0 < c := Nat.pos_of_ne_zero fun e => by subst e; omega
    exfalso
    by_cases hpc : p ∣ c
    · have e := phi_dvd hp hpc
      rw [hc] at e
      have hd1 : p ∣ p * c - 1 := ⟨_, e⟩
      have hd2 : p ∣ p * c := ⟨c, rfl⟩
      have := (Nat.dvd_sub hd2 hd1)
      rw [show p * c - (p * c - 1) = 1 by omega] at this
      have := Nat.le_of_dvd Nat.one_pos this
      omega
    · have e := phi_ndvd' hp hpc
      rw [hc] at e
      have h5 := Nat.mul_le_mul_left (p - 1) (phi_le c)
      obtain ⟨q, rfl⟩ : ∃ q, p = q + 1 := ⟨p - 1, by omega⟩
      rw [Nat.add_sub_cancel] at e h5
      rw [Nat.add_mul, Nat.one_mul] at e
      omega
/-- a line of a certificate -/
structure Ln where
  n : Int
  g : Int
  src : List Int
  deriving Inhabited
def genB (g n : Int) (ps : List Int) : Bool := g ^ (n - 1).toNat % n == 1 && !(ps.any fun q => g ^ ((n - 1) / q).toNat % n == 1)
def stripI (l p : Int) : Int := ((strip l.toNat p.toNat l.toNat).2 : Nat)
/-- the walk over the lines from which one hangs -/
def scan (L : List Ln) (i : Nat) (n : Int) : List Int → Int → List Int → Option (Int × List Int)
  | [], left, ps => some (left, ps)
  | k :: t, left, ps =>
    if k < 0 ∨ (i : Int) ≤ k then none
    else if (n - 1) % (L.getD k.toNat default).n ≠ 0 then none
    else scan L i n t (stripI left (L.getD k.toNat default).n) (ps ++ [(L.getD k.toNat default).n])
def fin (g n : Int) : Option (Int × List Int) → Bool
  | none => false
  | some (left, ps) => left == 1 && genB g n ps
def lineB (L : List Ln) (i : Nat) (x : Ln) : Bool :=
  x.n == 2 || (!(decide (x.n < 3) || decide (1048576 < x.n) || decide (x.g < 1) || decide (x.n ≤ x.g)) &&
    fin x.g x.n (scan L i x.n x.src (x.n - 1) []))
def holdB (L : List Ln) (i : Nat) : Bool := lineB L i (L.getD i default)
/-- a number that is a prime -/
def PrI (x : Int) : Prop := 0 ≤ x ∧ Pr x.toNat
theorem strip_prime {l p : Nat} (hp : Pr p) (hl : 0 < l) : 0 < (strip l p l).2 ∧ (∀ q, Pr q → q ∣ l → q ∣ (strip l p l).2 ∨ q = p) ∧ (strip l p l).2 ∣ l ∧ (∀ q, Pr q → q ∣ (strip l p l).2 → q ≠ p) := by
  obtain ⟨e, hd, h0⟩ := strip_spec hp.1 l l hl (Nat.le_refl l)
  refine ⟨h0, fun q hq hql => ?_, ⟨_, by rw [Nat.mul_comm]; exact e⟩, fun q hq hql e2 => hd (e2 ▸ hql)⟩
  rw [e] at hql
  rcases hq.dvd_mul hql with h | h
  · exact .inr (hq.eq_of_dvd hp (hq.dvd_pow h))
  · exact .inl h
theorem scan_sound {L : List Ln} {i : Nat} {n : Int} (hL : ∀ j, j < i → PrI (L.getD j default).n) : ∀ (src : List Int) (left : Int) (ps : List Int) (left' : Int) (ps' : List Int), 0 < left → scan L i n src left ps = some (left', ps') →
    0 < left' ∧ (∀ q, Pr q → q ∣ left.toNat → q ∣ left'.toNat ∨ (q : Int) ∈ ps') ∧ ∀ x ∈ ps, x ∈ ps'
  | [], left, ps, left', ps', h0, h => by
    simp only [scan, Option.some.injEq, Prod.mk.injEq] at h
    obtain ⟨rfl, rfl⟩ := h
    exact ⟨h0, fun q _ hq => .inl hq, fun x hx => hx⟩
  | k :: t, left, ps, left', ps', h0, h => by
    unfold scan at h
    split at h
    · cases h
    · rename_i hk
      split at h
      · cases h
      · have hk1 : k.toNat < i := by omega
        obtain ⟨p0, hp⟩ := hL _ hk1
        obtain ⟨s1, s2, s3, s4⟩ := strip_prime hp (l := left.toNat) (by omega)
        obtain ⟨r1, r2, r3⟩ := scan_sound hL t _ _ _ _ (by unfold stripI; omega) h
        refine ⟨r1, fun q hq hd => ?_, fun x hx => r3 x (List.mem_append_left _ hx)⟩
        rcases s2 q hq hd with h1 | h1
        · exact r2 q hq (by unfold stripI; rw [Int.toNat_natCast]; exact h1)
        · refine .inr (r3 _ (List.mem_append_right _ ?_))
          rw [h1, Int.toNat_of_nonneg p0]; simp
/-- a line that holds, behind primes, has a prime -/
theorem line_sound {L : List Ln} {i : Nat} {x : Ln} (hL : ∀ j, j < i → PrI (L.getD j default).n) (h : lineB L i x = true) : PrI x.n := by
  unfold lineB at h
  rw [Bool.or_eq_true] at h
  rcases h with h | h
  · have e : x.n = 2 := by simpa using h
    rw [e]; exact ⟨by decide, by decide, fun d hd => by
      have := Nat.le_of_dvd (by decide) hd
      have : d ≠ 0 := by rintro rfl; simp at hd
      have : d ≤ 2 := by simpa using ‹d ≤ _›
      show d = 1 ∨ d = 2
      omega⟩
  · rw [Bool.and_eq_true] at h
    obtain ⟨h1, h2⟩ := h
    simp only [Bool.not_eq_true', Bool.or_eq_false_iff, decide_eq_false_iff_not] at h1
    obtain ⟨⟨⟨a1, a2⟩, a3⟩, a4⟩ := h1
    cases hs : scan L i x.n x.src (x.n - 1) [] with
    | none => rw [hs] at h2; cases h2
    | some y =>
      obtain ⟨left, ps⟩ := y
      rw [hs] at h2
      simp only [fin, Bool.and_eq_true, beq_iff_eq] at h2
      obtain ⟨hl, hg⟩ := h2
      subst hl
      obtain ⟨r1, r2, _⟩ := scan_sound hL _ _ _ _ _ (by omega) hs
      unfold genB at hg
      simp only [Bool.and_eq_true, beq_iff_eq, Bool.not_eq_true', List.any_eq_false] at hg
      obtain ⟨g1, g2⟩ := hg
      obtain ⟨N, hN⟩ := Int.eq_ofNat_of_zero_le (show 0 ≤ x.n by omega)
      refine ⟨by omega, ?_⟩
      rw [hN, Int.toNat_natCast]
      rw [hN] at g1 g2 r2
      have n3 : 3 ≤ N := by omega
      have e1 : ((N : Int) - 1).toNat = N - 1 := by omega
      rw [e1] at g1 r2
      have one : (1 : Int) % (N : Int) = 1 := Int.emod_eq_of_lt (by omega) (by omega)
      refine lucas (g := x.g) n3 (isOrd_of (by omega) (by unfold One; rw [g1, one]) fun p hp hd hone => ?_)
      rcases r2 p hp hd with h | h
      · have := Nat.le_of_dvd (by decide) h
        have := hp.1
        simp at *; omega
      · refine g2 _ h ?_
        unfold One at hone
        rw [one] at hone
        rw [show ((N : Int) - 1) / (p : Int) = (((N - 1) / p : Nat) : Int) by rw [Int.natCast_ediv]; congr 1; omega, Int.toNat_natCast]
        simpa using hone
theorem line_le {L : List Ln} {i : Nat} {x : Ln} (h : lineB L i x = true) : x.n ≤ 1048576 := by
  unfold lineB at h
  rw [Bool.or_eq_true] at h
  rcases h with h | h
  · have e : x.n = 2 := by simpa using h
    omega
  · rw [Bool.and_eq_true] at h
    have h1 := h.1
    simp only [Bool.not_eq_true', Bool.or_eq_false_iff, decide_eq_false_iff_not] at h1
    omega
end Go.Proofs.Ytceocooppjfjjaa.M
