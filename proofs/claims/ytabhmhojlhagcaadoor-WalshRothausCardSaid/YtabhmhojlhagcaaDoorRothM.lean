/- Plain: sums over the places within a set (Poisson), Siegenthaler's and Rothaus's bounds. -/
import Derived.Test.YtabhmhojlhagcaaDoorWalM
import Derived.Test.YtabhmhojlhagcaaDoorAnfM
namespace Go.Proofs.YtabhmhojlhagcaaDoor
set_option linter.unusedVariables false
set_option linter.unusedSimpArgs false
/-- no bit in common -/
def disI (v u : Nat) : Int := if v &&& u = 0 then 1 else 0
theorem poi_all : ((List.range 6).all fun n => (List.range 32).all fun u => (List.range 32).all fun y => !(decide (u < 2 ^ n)) || !(decide (y < 2 ^ n)) || SumI (2 ^ n) (fun v => disI v u * chi (y &&& v)) == (2 : Int) ^ (n - pop5 u) * subI y u) = true := by decide +kernel
theorem range_fact {p : Nat → Nat → Nat → Bool} (h : ((List.range 6).all fun n => (List.range 32).all fun u => (List.range 32).all fun y => !(decide (u < 2 ^ n)) || !(decide (y < 2 ^ n)) || p n u y) = true) {n u y : Nat} (hn : n ≤ 5) (hu : u < 2 ^ n) (hy : y < 2 ^ n) : p n u y = true := by
  have h5 : 2 ^ n ≤ 32 := Nat.pow_le_pow_right (n := 2) (by omega) hn
  have h1 := List.all_eq_true.1 (List.all_eq_true.1 (List.all_eq_true.1 h n (List.mem_range.2 (by omega))) u (List.mem_range.2 (by omega))) y (List.mem_range.2 (by omega))
  rw [decide_eq_true hu, decide_eq_true hy] at h1
  simpa using h1
theorem poi {n u y : Nat} (hn : n ≤ 5) (hu : u < 2 ^ n) (hy : y < 2 ^ n) : SumI (2 ^ n) (fun v => disI v u * chi (y &&& v)) = (2 : Int) ^ (n - pop5 u) * subI y u := by
  have := range_fact (p := fun n u y => SumI (2 ^ n) (fun v => disI v u * chi (y &&& v)) == (2 : Int) ^ (n - pop5 u) * subI y u) poi_all hn hu hy
  simpa using this
theorem dis_all : ((List.range 6).all fun n => (List.range 32).all fun u => (List.range 32).all fun y => !(decide (u < 2 ^ n)) || !(decide (y < 2 ^ n)) || (!(decide (y &&& u = 0)) || decide (pop5 y + pop5 u ≤ n)) && decide (pop5 u ≤ n) && (decide (y = 0) || decide (1 ≤ pop5 y)) && SumI (2 ^ n) (fun v => subI v u) == (2 : Int) ^ pop5 u) = true := by decide +kernel
theorem dis_fact {n u y : Nat} (hn : n ≤ 5) (hu : u < 2 ^ n) (hy : y < 2 ^ n) : (y &&& u = 0 → pop5 y + pop5 u ≤ n) ∧ pop5 u ≤ n ∧ (y ≠ 0 → 1 ≤ pop5 y) ∧ SumI (2 ^ n) (fun v => subI v u) = (2 : Int) ^ pop5 u := by
  have := range_fact (p := fun n u y => (!(decide (y &&& u = 0)) || decide (pop5 y + pop5 u ≤ n)) && decide (pop5 u ≤ n) && (decide (y = 0) || decide (1 ≤ pop5 y)) && SumI (2 ^ n) (fun v => subI v u) == (2 : Int) ^ pop5 u) dis_all hn hu hy
  simp only [Bool.and_eq_true, Bool.or_eq_true, Bool.not_eq_true', decide_eq_false_iff_not, decide_eq_true_eq, beq_iff_eq] at this
  obtain ⟨⟨⟨h1, h2⟩, h3⟩, h4⟩ := this
  exact ⟨fun h => h1.resolve_left fun k => k h, h2, fun h => h3.resolve_left h, h4⟩
theorem less_all : ((List.range 32).all fun i => decide (i = 0) || (List.range 32).any fun j => decide (j < i) && decide (pop5 j + 1 = pop5 i)) = true := by decide +kernel
theorem less_one {i : Nat} (h : i < 32) (h0 : i ≠ 0) : ∃ j, j < i ∧ pop5 j + 1 = pop5 i := by
  have := List.all_eq_true.1 less_all i (List.mem_range.2 h)
  rw [decide_eq_false h0, Bool.false_or, List.any_eq_true] at this
  obtain ⟨j, _, h2⟩ := this
  simp only [Bool.and_eq_true, decide_eq_true_eq] at h2
  exact ⟨j, h2⟩
/-- the sum of the signs within a set, and of the values -/
def sS (n f u : Nat) : Int := SumI (2 ^ n) fun y => subI y u * sgn f y
def sA (n f u : Nat) : Int := SumI (2 ^ n) fun y => subI y u * bitI f y
theorem sS_sA {n f u : Nat} (hn : n ≤ 5) (hu : u < 2 ^ n) : sS n f u = 2 ^ pop5 u - 2 * sA n f u := by
  have h := (dis_fact hn hu hu).2.2.2
  unfold sS sA
  rw [← h, ← SumI_mul, ← SumI_sub]
  refine SumI_congr fun y _ => ?_
  unfold sgn bitI
  rw [Int.mul_sub, Int.mul_one]
  grind
theorem poisson {n f u : Nat} (hn : n ≤ 5) (hu : u < 2 ^ n) : SumI (2 ^ n) (fun v => disI v u * walN n f v) = 2 ^ (n - pop5 u) * sS n f u := by
  unfold walN sS
  have e1 : SumI (2 ^ n) (fun v => disI v u * SumI (2 ^ n) fun y => chi (y &&& v) * sgn f y) = SumI (2 ^ n) fun v => SumI (2 ^ n) fun y => disI v u * (chi (y &&& v) * sgn f y) :=
    SumI_congr fun v _ => (SumI_mul _ _ _).symm
  rw [e1, SumI_swap, ← SumI_mul]
  refine SumI_congr fun y hy => ?_
  have e2 : SumI (2 ^ n) (fun v => disI v u * (chi (y &&& v) * sgn f y)) = SumI (2 ^ n) fun v => sgn f y * (disI v u * chi (y &&& v)) := SumI_congr fun v _ => by grind
  rw [e2, SumI_mul, poi hn hu hy]
  grind
theorem only_zero {n f u k : Nat} (hn : n ≤ 5) (hu : u < 2 ^ n) (hk : n - pop5 u ≤ k) (h : ∀ v, v < 2 ^ n → 1 ≤ pop5 v → pop5 v ≤ k → walN n f v = 0) : walN n f 0 = 2 ^ (n - pop5 u) * sS n f u := by
  rw [← poisson hn hu, SumI_single (k := 0) (Nat.pow_pos (by omega)) (fun v hv h0 => ?_)]
  · have : disI 0 u = 1 := by unfold disI; rw [Nat.zero_and, if_pos rfl]
    rw [this, Int.one_mul]
  · unfold disI
    by_cases hd : v &&& u = 0
    · obtain ⟨d1, d2, d3, _⟩ := dis_fact hn hu hv
      have := d1 hd
      rw [h v hv (d3 h0) (by omega), Int.mul_zero]
    · rw [if_neg hd, Int.zero_mul]
/-- Siegenthaler -/
theorem siegenthaler {n f i k : Nat} (hn : n ≤ 5) (hi : i < 2 ^ n) (hk : k ≤ n) (h : ∀ v, v < 2 ^ n → 1 ≤ pop5 v → pop5 v ≤ k → walN n f v = 0) (ha : anfI n (bitI f) i ≠ 0) : pop5 i + k ≤ n := by
  refine Nat.le_of_not_lt fun hlt => ha ?_
  have h5 : 2 ^ n ≤ 32 := Nat.pow_le_pow_right (n := 2) (by omega) hn
  have hp := (dis_fact hn hi hi).2.1
  have h0 : i ≠ 0 := by rintro rfl; have : pop5 0 = 0 := rfl; omega
  obtain ⟨j, hj, hpj⟩ := less_one (by omega) h0
  have w1 := only_zero hn hi (k := k) (by omega) h
  have w2 := only_zero hn (show j < 2 ^ n by omega) (k := k) (by omega) h
  rw [w1, show n - pop5 j = (n - pop5 i) + 1 by omega, Int.pow_succ, Int.mul_assoc] at w2
  have hpos : (2 : Int) ^ (n - pop5 i) ≠ 0 := Int.pow_ne_zero (by decide)
  have e := Int.eq_of_mul_eq_mul_left hpos w2
  rw [sS_sA hn hi, sS_sA hn (show j < 2 ^ n by omega), ← hpj, Int.pow_succ] at e
  have e2 : sA n f i = 2 * sA n f j := by omega
  have e3 : anfI n (bitI f) i = sA n f i % 2 := rfl
  rw [e3, e2]
  omega
/-- the highest degree -/
def IsDeg (G : Nat) (d : Int) : Prop := (∀ i, G / 2 ^ i % 2 = 1 → (pop5 i : Int) ≤ d) ∧ (d = -1 ∨ ∃ i, G / 2 ^ i % 2 = 1 ∧ d = pop5 i)
theorem anf_bit {n f i : Nat} (h : anfN n f / 2 ^ i % 2 = 1) : i < 2 ^ n ∧ anfI n (bitI f) i ≠ 0 := by
  have hi : i < 2 ^ n := by
    refine Nat.lt_of_not_le fun hle => ?_
    have h1 := anfN_lt n f
    have h2 : 2 ^ 2 ^ n ≤ 2 ^ i := Nat.pow_le_pow_right (by omega) hle
    rw [Nat.div_eq_of_lt (by omega)] at h
    omega
  refine ⟨hi, fun h0 => ?_⟩
  have := wordN_bit (anfI_cases n (bitI f)) (2 ^ n) i hi
  rw [h0] at this
  have h2 : wordN (anfI n (bitI f)) (2 ^ n) / 2 ^ i % 2 = 1 := h
  have h3 : ((wordN (anfI n (bitI f)) (2 ^ n) / 2 ^ i % 2 : Nat) : Int) = 0 := this
  rw [h2] at h3
  exact absurd h3 (by decide)
theorem deg_le {n f : Nat} {d : Int} (hn : n ≤ 5) (h : IsDeg (anfN n f) d) : -1 ≤ d ∧ d ≤ n := by
  rcases h.2 with h | ⟨i, h1, h2⟩
  · omega
  · obtain ⟨hi, _⟩ := anf_bit h1
    have := (dis_fact hn hi hi).2.1
    omega
theorem sieg_law {n f k : Nat} {d : Int} (hn : n ≤ 5) (hk : k ≤ n) (hd : IsDeg (anfN n f) d) (h : ∀ v, v < 2 ^ n → 1 ≤ pop5 v → pop5 v ≤ k → walN n f v = 0) : d + k ≤ n := by
  rcases hd.2 with h1 | ⟨i, h1, h2⟩
  · omega
  · obtain ⟨hi, ha⟩ := anf_bit h1
    have := siegenthaler hn hi hk h ha
    omega
/-- all waves as high -/
def Bent (n f : Nat) : Prop := ∀ v, v < 2 ^ n → walN n f v = walN n f 0 ∨ walN n f v = - walN n f 0
theorem bent_sq {n f : Nat} (hn : n ≤ 5) (h : Bent n f) : walN n f 0 * walN n f 0 = ((2 ^ n : Nat) : Int) := by
  have h1 := parseval (f := f) hn
  have h2 : SumI (2 ^ n) (fun u => walN n f u * walN n f u) = SumI (2 ^ n) fun _ => walN n f 0 * walN n f 0 := SumI_congr fun v hv => by
    rcases h v hv with e | e <;> rw [e]
    rw [Int.neg_mul_neg]
  rw [h2, SumI_const] at h1
  have h3 : ((4 ^ n : Nat) : Int) = ((2 ^ n : Nat) : Int) * ((2 ^ n : Nat) : Int) := by rw [← Int.natCast_mul, ← Nat.mul_pow]
  rw [h3] at h1
  exact Int.eq_of_mul_eq_mul_left (by have := Nat.pow_pos (a := 2) (n := n) (by omega); omega) h1
theorem no_root {x : Int} {m : Nat} (h : x * x = (m : Int)) (hm : m = 2 ∨ m = 8 ∨ m = 32) : False := by
  have h1 : x.natAbs * x.natAbs = m := by
    have := congrArg Int.natAbs h
    rw [Int.natAbs_mul] at this
    simpa using this
  have h2 : x.natAbs < 6 := by
    refine Nat.lt_of_not_le fun hle => ?_
    have := Nat.mul_le_mul hle hle
    omega
  have h3 : x.natAbs = 0 ∨ x.natAbs = 1 ∨ x.natAbs = 2 ∨ x.natAbs = 3 ∨ x.natAbs = 4 ∨ x.natAbs = 5 := by omega
  rcases h3 with e | e | e | e | e | e <;> rw [e] at h1 <;> omega
theorem bent_even {n f : Nat} (hn : n ≤ 5) (h : Bent n f) : n % 2 = 0 := by
  refine (Nat.mod_two_eq_zero_or_one n).resolve_right fun ho => ?_
  have h3 : n = 1 ∨ n = 3 ∨ n = 5 := by omega
  have := bent_sq hn h
  rcases h3 with rfl | rfl | rfl
  · exact no_root this (.inl rfl)
  · exact no_root this (.inr (.inl rfl))
  · exact no_root this (.inr (.inr rfl))
theorem root_four {x : Int} (h : x * x = 16) : x = 4 ∨ x = -4 := by
  have h1 : x.natAbs * x.natAbs = 16 := by
    have := congrArg Int.natAbs h
    rw [Int.natAbs_mul] at this
    simpa using this
  have h2 : x.natAbs < 5 := by
    refine Nat.lt_of_not_le fun hle => ?_
    have := Nat.mul_le_mul hle hle
    omega
  have h3 : x.natAbs = 0 ∨ x.natAbs = 1 ∨ x.natAbs = 2 ∨ x.natAbs = 3 ∨ x.natAbs = 4 := by omega
  rcases h3 with e | e | e | e | e <;> rw [e] at h1 <;> omega
theorem high_all : ((List.range 256).all fun a => (List.range 256).all fun b => [3, 5, 6, 7, 9, 10, 11, 12, 13, 14, 15].any (fun i => (a * 256 + b) / 2 ^ i % 2 == 1) ||
    (List.range 16).any fun v => walN 4 (anfN 4 (a * 256 + b)) v != 4 && walN 4 (anfN 4 (a * 256 + b)) v != -4) = true := by decide +kernel
theorem high_fact {g : Nat} (h : g < 65536) (hl : ∀ i, g / 2 ^ i % 2 = 1 → pop5 i ≤ 1) : ∃ v, v < 16 ∧ walN 4 (anfN 4 g) v ≠ 4 ∧ walN 4 (anfN 4 g) v ≠ -4 := by
  have h1 := List.all_eq_true.1 (List.all_eq_true.1 high_all (g / 256) (List.mem_range.2 (by omega))) (g % 256) (List.mem_range.2 (by omega))
  rw [show g / 256 * 256 + g % 256 = g by omega, Bool.or_eq_true] at h1
  rcases h1 with h1 | h1
  · obtain ⟨i, hi, hb⟩ := List.any_eq_true.1 h1
    have := hl i (by simpa using hb)
    simp only [List.mem_cons, List.not_mem_nil, or_false] at hi
    rcases hi with rfl | rfl | rfl | rfl | rfl | rfl | rfl | rfl | rfl | rfl | rfl <;> exact absurd this (by decide)
  · obtain ⟨v, hv, hb⟩ := List.any_eq_true.1 h1
    exact ⟨v, List.mem_range.1 hv, by simpa using hb⟩
theorem roth_four {f : Nat} {d : Int} (hf : f < 65536) (h : Bent 4 f) (hd : IsDeg (anfN 4 f) d) : d = 2 := by
  have h0 := root_four (bent_sq (by decide) h)
  have hv : ∀ v, v < 16 → walN 4 f v = 4 ∨ walN 4 f v = -4 := fun v hv => by
    have := h v hv
    omega
  have low : ∀ i, anfN 4 f / 2 ^ i % 2 = 1 → pop5 i ≤ 2 := fun i hi => by
    obtain ⟨hi2, ha⟩ := anf_bit hi
    refine Nat.le_of_not_lt fun hlt => ha ?_
    have e3 : anfI 4 (bitI f) i = sA 4 f i % 2 := rfl
    rw [e3]
    have hp := poisson (n := 4) (f := f) (by decide) hi2
    rw [sS_sA (by decide) hi2] at hp
    have a0 := hv 0 (by decide)
    have hc : i = 7 ∨ i = 11 ∨ i = 13 ∨ i = 14 ∨ i = 15 := by
      have : ∀ i, i < 16 → 2 < pop5 i → i = 7 ∨ i = 11 ∨ i = 13 ∨ i = 14 ∨ i = 15 := by decide
      exact this i hi2 hlt
    rcases hc with rfl | rfl | rfl | rfl | rfl
    · have a1 := hv 8 (by decide)
      simp [SumI, disI, pop5] at hp; omega
    · have a1 := hv 4 (by decide)
      simp [SumI, disI, pop5] at hp; omega
    · have a1 := hv 2 (by decide)
      simp [SumI, disI, pop5] at hp; omega
    · have a1 := hv 1 (by decide)
      simp [SumI, disI, pop5] at hp; omega
    · simp [SumI, disI, pop5] at hp; omega
  have up : ∃ i, anfN 4 f / 2 ^ i % 2 = 1 ∧ 2 ≤ pop5 i := by
    refine Classical.byContradiction fun hno => ?_
    obtain ⟨v, hv1, n1, n2⟩ := high_fact (g := anfN 4 f) (anfN_lt 4 f) fun i hi => by
      refine Nat.le_of_not_lt fun hlt => hno ⟨i, hi, hlt⟩
    rw [anfN_back (by decide) hf] at n1 n2
    have := hv v hv1
    omega
  obtain ⟨i, hi, h2⟩ := up
  have hu := hd.1 i hi
  rcases hd.2 with e | ⟨j, hj, e⟩
  · omega
  · have := low j hj
    omega
end Go.Proofs.YtabhmhojlhagcaaDoor
