/- Plain: the fly of exclusive ors is the algebraic normal form; it is its own inverse. -/
import Derived.Test.YtabhmhojlhagcaaDoorWalM
namespace Go.Proofs.YtabhmhojlhagcaaDoor
set_option linter.unusedVariables false
/-- a bit of a word -/
def bitI (f x : Nat) : Int := ((f / 2 ^ x % 2 : Nat) : Int)
theorem bitI_cases (f x : Nat) : bitI f x = 0 ∨ bitI f x = 1 := by unfold bitI; omega
/-- are all bits of y bits of i -/
def subI (y i : Nat) : Int := if y &&& i = y then 1 else 0
def subB (K i y : Nat) : Bool :=
  if i ||| 2 ^ K = i then i % 2 ^ (K + 1) == i % 2 ^ K + 2 ^ K && (i - 2 ^ K) % 2 ^ K == i % 2 ^ K && subI y (i - 2 ^ K) == subI y i && subI (2 ^ K + y) i == subI y i
  else i % 2 ^ (K + 1) == i % 2 ^ K && subI (2 ^ K + y) i == 0
theorem sub_all : ((List.range 5).all fun K => (List.range 32).all fun i => (List.range 16).all fun y => !(decide (y < 2 ^ K)) || subB K i y) = true := by decide +kernel
theorem sub_facts {K i y : Nat} (hK : K < 5) (hi : i < 32) (hy : y < 2 ^ K) :
    (i ||| 2 ^ K = i → i % 2 ^ (K + 1) = i % 2 ^ K + 2 ^ K ∧ (i - 2 ^ K) % 2 ^ K = i % 2 ^ K ∧ subI y (i - 2 ^ K) = subI y i ∧ subI (2 ^ K + y) i = subI y i) ∧
     (i ||| 2 ^ K ≠ i → i % 2 ^ (K + 1) = i % 2 ^ K ∧ subI (2 ^ K + y) i = 0) := by
  have h16 : 2 ^ K ≤ 2 ^ 4 := Nat.pow_le_pow_right (by omega) (by omega)
  have h := List.all_eq_true.1 (List.all_eq_true.1 (List.all_eq_true.1 sub_all K (List.mem_range.2 hK)) i (List.mem_range.2 hi)) y (List.mem_range.2 (by omega))
  rw [decide_eq_true hy, Bool.not_true, Bool.false_or] at h
  unfold subB at h
  refine ⟨fun e => ?_, fun e => ?_⟩
  · rw [if_pos e] at h
    simp only [Bool.and_eq_true, beq_iff_eq] at h
    exact ⟨h.1.1.1, h.1.1.2, h.1.2, h.2⟩
  · rw [if_neg e] at h
    simp only [Bool.and_eq_true, beq_iff_eq] at h
    exact h
theorem xor_par (A B : Int) : bits .xor .i64 (A % 2) (B % 2) = (A + B) % 2 := by
  rcases (by omega : A % 2 = 0 ∨ A % 2 = 1) with h1 | h1 <;> rcases (by omega : B % 2 = 0 ∨ B % 2 = 1) with h2 | h2 <;> rw [h1, h2]
  · rw [show (A + B) % 2 = 0 by omega]; exact i64_xor_nat 0 0 (by omega) (by omega)
  · rw [show (A + B) % 2 = 1 by omega]; exact i64_xor_nat 0 1 (by omega) (by omega)
  · rw [show (A + B) % 2 = 1 by omega]; exact i64_xor_nat 1 0 (by omega) (by omega)
  · rw [show (A + B) % 2 = 0 by omega]; exact i64_xor_nat 1 1 (by omega) (by omega)
/-- the pair of the algebraic normal form -/
def pA : Int → Int → Int := fun a _ => a
def qA : Int → Int → Int := fun a b => bits .xor .i64 a b
theorem fly_subs {n : Nat} (hn : n ≤ 5) (s : Nat → Int) (h01 : ∀ x, s x = 0 ∨ s x = 1) (l : List Int) (hl : l.length = 2 ^ n) (hs : ∀ i, i < 2 ^ n → l.getD i 0 = s i) :
    ∀ K, K ≤ n → ∀ i, i < 2 ^ n → (flyTo pA qA (2 ^ n) l K).getD i 0 = SumI (2 ^ K) (fun y => subI y i * s (i - i % 2 ^ K + y)) % 2 := by
  have hN : 2 ^ n ≤ 32 := Nat.pow_le_pow_right (n := 2) (by omega) hn
  intro K
  induction K with
  | zero =>
    intro _ i hi
    have e : subI 0 i = 1 := by unfold subI; rw [Nat.zero_and]; rfl
    simp only [Nat.pow_zero, SumI, Nat.mod_one, Nat.sub_zero, Nat.add_zero, e, flyTo]
    rw [hs i hi]
    rcases h01 i with h | h <;> rw [h] <;> omega
  | succ K ih =>
    intro hK i hi
    have ihK := ih (by omega)
    have hP : 0 < 2 ^ K := Nat.pow_pos (by omega)
    have hlo := lo_facts K (by omega) i (by omega)
    rw [flyTo, round_get _ _ hn (by omega) _ ((flyTo_len _ _ _ _ _).trans hl) hi]
    unfold newAt
    rw [Nat.pow_succ, Nat.mul_two, SumI_append]
    have hpow : 2 ^ K + 2 ^ K = 2 ^ (K + 1) := by rw [Nat.pow_succ, Nat.mul_two]
    by_cases hb : i ||| 2 ^ K = i
    · have hge := (hlo.1 hb).1
      rw [if_pos hb, ihK _ (Nat.lt_of_le_of_lt (Nat.sub_le _ _) hi), ihK i hi]
      unfold qA
      rw [xor_par]
      congr 1
      rw [← SumI_add, ← SumI_add]
      apply SumI_congr
      intro y hy
      obtain ⟨c1, c2, c3, c4⟩ := (sub_facts (K := K) (i := i) (y := y) (by omega) (by omega) hy).1 hb
      have hle := Nat.mod_le i (2 ^ (K + 1))
      rw [hpow]
      generalize 2 ^ K = P at *
      generalize i % 2 ^ (K + 1) = R at *
      rw [c2, c3, c4, c1]
      have e1 : i - P - i % P + y = i - (i % P + P) + y := by omega
      have e2 : i - (i % P + P) + (P + y) = i - i % P + y := by omega
      rw [e1, e2]
    · rw [if_neg hb, ihK i hi]
      unfold pA
      congr 1
      rw [← SumI_add]
      apply SumI_congr
      intro y hy
      obtain ⟨c1, c4⟩ := (sub_facts (K := K) (i := i) (y := y) (by omega) (by omega) hy).2 hb
      rw [hpow, c4, c1]
      omega
/-- the algebraic normal form, bit by bit -/
def anfI (n : Nat) (s : Nat → Int) (i : Nat) : Int := SumI (2 ^ n) (fun y => subI y i * s y) % 2
theorem anfI_cases (n : Nat) (s : Nat → Int) (i : Nat) : anfI n s i = 0 ∨ anfI n s i = 1 := by unfold anfI; omega
theorem fly_anf {n : Nat} (hn : n ≤ 5) (s : Nat → Int) (h01 : ∀ x, s x = 0 ∨ s x = 1) : flyTo pA qA (2 ^ n) ((List.range (2 ^ n)).map s) n = (List.range (2 ^ n)).map (anfI n s) := by
  refine getD_ext (by rw [flyTo_len]; simp) fun i hi => ?_
  rw [flyTo_len] at hi
  have hi2 : i < 2 ^ n := by simpa using hi
  rw [fly_subs hn s h01 _ (by simp) (fun i h => range_getD _ h) n (Nat.le_refl _) i hi2, range_getD _ hi2]
  unfold anfI
  congr 1
  apply SumI_congr
  intro y hy
  rw [Nat.mod_eq_of_lt hi2, Nat.sub_self, Nat.zero_add]
theorem anf_bound {n : Nat} (hn : n ≤ 5) (s : Nat → Int) (h01 : ∀ x, s x = 0 ∨ s x = 1) : ∀ K X, K < n → X ≤ 2 ^ n → ∀ v ∈ rowTo pA qA K (flyTo pA qA (2 ^ n) ((List.range (2 ^ n)).map s) K) X, -1073741824 ≤ v ∧ v ≤ 1073741824 := by
  intro K X hK hX v hv
  have hN : 2 ^ n ≤ 32 := Nat.pow_le_pow_right (n := 2) (by omega) hn
  obtain ⟨i, hi, rfl⟩ := List.getElem_of_mem hv
  have hl : (flyTo pA qA (2 ^ n) ((List.range (2 ^ n)).map s) K).length = 2 ^ n := by rw [flyTo_len]; simp
  rw [rowTo_len, hl] at hi
  have hb : ∀ j, j < 2 ^ n → ∃ A : Int, (flyTo pA qA (2 ^ n) ((List.range (2 ^ n)).map s) K).getD j 0 = A % 2 := fun j hj =>
    ⟨_, fly_subs hn s h01 _ (by simp) (fun i h => range_getD _ h) K (by omega) j hj⟩
  have hg := rowTo_get pA qA hn hK _ hl X hX i hi
  rw [List.getD_eq_getElem?_getD, List.getElem?_eq_getElem (by rw [rowTo_len, hl]; exact hi), Option.getD_some] at hg
  rw [hg]
  obtain ⟨A, hA⟩ := hb i hi
  split
  · unfold newAt
    split
    · obtain ⟨B, hB⟩ := hb (i - 2 ^ K) (Nat.lt_of_le_of_lt (Nat.sub_le _ _) hi)
      rw [hA, hB, show qA (B % 2) (A % 2) = (B + A) % 2 from xor_par B A]
      omega
    · rw [hA, show ∀ b, pA (A % 2) b = A % 2 from fun _ => rfl]; omega
  · rw [hA]; omega
theorem inv_all : ((List.range 6).all fun n => (List.range 32).all fun i => (List.range 32).all fun z => !(decide (i < 2 ^ n)) || !(decide (z < 2 ^ n)) || SumI (2 ^ n) (fun y => subI y i * subI z y) % 2 == if z = i then 1 else 0) = true := by decide +kernel
theorem sub_inv (n : Nat) (hn : n ≤ 5) (i : Nat) (hi : i < 2 ^ n) (z : Nat) (hz : z < 2 ^ n) : SumI (2 ^ n) (fun y => subI y i * subI z y) % 2 = if z = i then 1 else 0 := by
  have hN : 2 ^ n ≤ 2 ^ 5 := Nat.pow_le_pow_right (by omega) (by omega)
  have h := List.all_eq_true.1 (List.all_eq_true.1 (List.all_eq_true.1 inv_all n (List.mem_range.2 (by omega))) i (List.mem_range.2 (by omega))) z (List.mem_range.2 (by omega))
  rw [decide_eq_true hi, decide_eq_true hz] at h
  simpa using h
theorem SumI_mod {n : Nat} {f g : Nat → Int} (h : ∀ i, i < n → f i % 2 = g i % 2) : SumI n f % 2 = SumI n g % 2 := by
  induction n with
  | zero => rfl
  | succ n ih =>
    have h1 := ih (fun i hi => h i (by omega))
    have h2 := h n (by omega)
    simp only [SumI]
    omega
theorem mul_mod2 (a b : Int) : a * (b % 2) % 2 = a * b % 2 := by rw [Int.mul_emod, Int.emod_emod_of_dvd b (Int.dvd_refl 2), ← Int.mul_emod]
theorem anf_inv {n : Nat} (hn : n ≤ 5) (s : Nat → Int) (h01 : ∀ x, s x = 0 ∨ s x = 1) {i : Nat} (hi : i < 2 ^ n) : anfI n (anfI n s) i = s i := by
  have h1 : anfI n (anfI n s) i = SumI (2 ^ n) (fun y => SumI (2 ^ n) (fun z => s z * (subI y i * subI z y))) % 2 := by
    conv => lhs; unfold anfI
    apply SumI_mod
    intro y hy
    conv => lhs; arg 1; arg 2; unfold anfI
    rw [mul_mod2, ← SumI_mul]
    congr 1
    apply SumI_congr
    intro z hz
    rw [← Int.mul_assoc, Int.mul_comm]
  rw [h1, SumI_swap]
  have h2 : SumI (2 ^ n) (fun z => SumI (2 ^ n) (fun y => s z * (subI y i * subI z y))) % 2 = SumI (2 ^ n) (fun z => s z * (if z = i then 1 else 0)) % 2 := by
    apply SumI_mod
    intro z hz
    rw [SumI_mul, ← mul_mod2, sub_inv n hn i hi z hz]
  rw [h2, SumI_single hi (fun z _ hne => by rw [if_neg hne, Int.mul_zero]), if_pos rfl]
  rcases h01 i with h | h <;> rw [h] <;> omega
/-- a word of bits -/
def wordN (b : Nat → Int) : Nat → Nat
  | 0 => 0
  | X + 1 => wordN b X + (b X).toNat * 2 ^ X
theorem wordN_lt {b : Nat → Int} (h01 : ∀ x, b x = 0 ∨ b x = 1) (X : Nat) : wordN b X < 2 ^ X := by
  induction X with
  | zero => simp [wordN]
  | succ X ih =>
    unfold wordN
    rw [Nat.pow_succ]
    rcases h01 X with h | h <;> rw [h]
    · rw [show (0 : Int).toNat = 0 from rfl, Nat.zero_mul]; omega
    · rw [show (1 : Int).toNat = 1 from rfl, Nat.one_mul]; omega
theorem wordN_or {b : Nat → Int} (h01 : ∀ x, b x = 0 ∨ b x = 1) (X : Nat) : wordN b X ||| ((b X).toNat * 2 ^ X) = wordN b (X + 1) := by
  rw [wordN, Nat.or_comm, Nat.mul_comm, ← Nat.two_pow_add_eq_or_of_lt (wordN_lt h01 X), Nat.add_comm]
theorem wordN_bit {b : Nat → Int} (h01 : ∀ x, b x = 0 ∨ b x = 1) (N x : Nat) (hx : x < N) : bitI (wordN b N) x = b x := by
  induction N with
  | zero => omega
  | succ N ih =>
    unfold bitI at *
    by_cases e : x = N
    · subst e
      have hlt := wordN_lt h01 x
      rw [wordN, Nat.add_mul_div_right _ _ (Nat.pow_pos (by omega)), Nat.div_eq_of_lt hlt, Nat.zero_add]
      rcases h01 x with h | h <;> rw [h] <;> rfl
    · have h2 := ih (by omega)
      have e2 : (b N).toNat * 2 ^ N = ((b N).toNat * 2 ^ (N - x - 1) * 2) * 2 ^ x := by
        rw [Nat.mul_assoc, Nat.mul_assoc, ← Nat.pow_succ', ← Nat.pow_add]
        congr 2
        omega
      rw [wordN, e2, Nat.add_mul_div_right _ _ (Nat.pow_pos (by omega)), Nat.add_mul_mod_self_right]
      exact h2
theorem wordN_of (f : Nat) (X : Nat) : wordN (bitI f) X = f % 2 ^ X := by
  induction X with
  | zero => simp [wordN, Nat.mod_one]
  | succ X ih =>
    rw [wordN, ih, Nat.mod_pow_succ]
    unfold bitI
    rw [Int.toNat_natCast, Nat.mul_comm]
theorem wordN_congr {b c : Nat → Int} {N : Nat} (h : ∀ x, x < N → b x = c x) : wordN b N = wordN c N := by
  induction N with
  | zero => rfl
  | succ N ih => rw [wordN, wordN, ih (fun x hx => h x (by omega)), h N (by omega)]
/-- the algebraic normal form of a word -/
def anfN (n f : Nat) : Nat := wordN (anfI n (bitI f)) (2 ^ n)
theorem anfI_congr {n : Nat} {s t : Nat → Int} (h : ∀ x, x < 2 ^ n → s x = t x) (i : Nat) : anfI n s i = anfI n t i := by
  unfold anfI
  congr 1
  exact SumI_congr fun y hy => by rw [h y hy]
theorem anfN_lt (n f : Nat) : anfN n f < 2 ^ 2 ^ n := wordN_lt (anfI_cases n _) _
theorem anfN_back {n f : Nat} (hn : n ≤ 5) (hf : f < 2 ^ 2 ^ n) : anfN n (anfN n f) = f := by
  have h : anfN n (anfN n f) = wordN (bitI f) (2 ^ n) := by
    conv => lhs; unfold anfN
    apply wordN_congr
    intro x hx
    rw [anfI_congr (t := anfI n (bitI f)) (fun y hy => ?_), anf_inv hn _ (bitI_cases f) hx]
    exact wordN_bit (anfI_cases n _) _ y hy
  rw [h, wordN_of, Nat.mod_eq_of_lt hf]
end Go.Proofs.YtabhmhojlhagcaaDoor
