/- Plain: the fly of sums and differences is the Walsh transform. -/
import Derived.Test.YtabhmhojlhagcaaDoorSumM
import Derived.Test.YtabhmhojlhagcaaDoorFly
namespace Go.Proofs.YtabhmhojlhagcaaDoor
set_option linter.unusedVariables false
/-- the sign of a function's value at a place -/
def sgn (f : Nat) (x : Nat) : Int := 1 - 2 * ((f / 2 ^ x % 2 : Nat) : Int)
/-- a place without its bit K -/
def loB (K i : Nat) : Nat := if i ||| 2 ^ K = i then i - 2 ^ K else i
theorem lo_facts : ∀ K, K < 5 → ∀ i, i < 32 → ((i ||| 2 ^ K = i → 2 ^ K ≤ i ∧ (i - 2 ^ K) ||| 2 ^ K = i ∧ (i - 2 ^ K) ||| 2 ^ K ≠ i - 2 ^ K) ∧ (i ||| 2 ^ K ≠ i → i ||| 2 ^ K = i + 2 ^ K ∧ (i + 2 ^ K) ||| 2 ^ K = i + 2 ^ K)) := by decide +kernel
theorem lo_le (K i : Nat) : loB K i ≤ i := by
  unfold loB
  split
  · exact Nat.sub_le _ _
  · exact Nat.le_refl _
/-- what a round makes at a place -/
def newAt (p q : Int → Int → Int) (K : Nat) (l : List Int) (i : Nat) : Int :=
  if i ||| 2 ^ K = i then q (l.getD (i - 2 ^ K) 0) (l.getD i 0) else p (l.getD i 0) (l.getD (i + 2 ^ K) 0)
theorem getD_set (l : List Int) (i j : Nat) (v : Int) (h : i < l.length) : (l.set i v).getD j 0 = if i = j then v else l.getD j 0 := by
  rw [List.getD_eq_getElem?_getD, List.getD_eq_getElem?_getD, List.getElem?_set]
  by_cases e : i = j
  · subst e; rw [if_pos rfl, if_pos rfl, if_pos h]; rfl
  · rw [if_neg e, if_neg e]
theorem rowTo_get (p q : Int → Int → Int) {n K : Nat} (hn : n ≤ 5) (hK : K < n) (l : List Int) (hl : l.length = 2 ^ n) :
    ∀ X, X ≤ 2 ^ n → ∀ i, i < 2 ^ n → (rowTo p q K l X).getD i 0 = if loB K i < X then newAt p q K l i else l.getD i 0 := by
  have hN : 2 ^ n ≤ 32 := Nat.pow_le_pow_right (n := 2) (by omega) hn
  intro X
  induction X with
  | zero => intro _ i _; rw [if_neg (by omega)]; rfl
  | succ X ih =>
    intro hX i hi
    have ihX := ih (by omega)
    have hXf := lo_facts K (by omega) X (by omega)
    have hif := lo_facts K (by omega) i (by omega)
    have hlen := (rowTo_len p q K l X).trans hl
    unfold rowTo pairAt
    by_cases hb : X ||| 2 ^ K = X
    · rw [if_pos hb, ihX i hi]
      have hne : loB K i ≠ X := by
        intro e
        unfold loB at e
        by_cases h2 : i ||| 2 ^ K = i
        · rw [if_pos h2] at e
          have := hif.1 h2
          rw [e] at this
          omega
        · rw [if_neg h2] at e
          rw [e] at h2; exact h2 hb
      by_cases h1 : loB K i < X
      · rw [if_pos h1, if_pos (by omega)]
      · rw [if_neg h1, if_neg (by omega)]
    · have hY := (hXf.2 hb).1
      have hYlt : X + 2 ^ K < 2 ^ n := by rw [← hY]; exact Nat.or_lt_two_pow (by omega) (Nat.pow_lt_pow_right (by omega) hK)
      have hYb := (hXf.2 hb).2
      have hP : 0 < 2 ^ K := Nat.pow_pos (by omega)
      rw [if_neg hb, hY]
      have loX : loB K X = X := by unfold loB; rw [if_neg hb]
      have loY : loB K (X + 2 ^ K) = X := by unfold loB; rw [if_pos hYb]; omega
      have rX : (rowTo p q K l X).getD X 0 = l.getD X 0 := by rw [ihX X (by omega), loX, if_neg (by omega)]
      have rY : (rowTo p q K l X).getD (X + 2 ^ K) 0 = l.getD (X + 2 ^ K) 0 := by rw [ihX _ hYlt, loY, if_neg (by omega)]
      rw [rX, rY, getD_set _ _ _ _ (by rw [List.length_set, hlen]; exact hYlt), getD_set _ _ _ _ (by rw [hlen]; omega)]
      by_cases e1 : X + 2 ^ K = i
      · rw [if_pos e1, ← e1, loY, if_pos (by omega)]
        unfold newAt
        rw [if_pos hYb, Nat.add_sub_cancel]
      · rw [if_neg e1]
        by_cases e2 : X = i
        · rw [if_pos e2, ← e2, loX, if_pos (by omega)]
          unfold newAt
          rw [if_neg hb]
        · rw [if_neg e2, ihX i hi]
          have hne : loB K i ≠ X := by
            intro e
            unfold loB at e
            by_cases h2 : i ||| 2 ^ K = i
            · rw [if_pos h2] at e
              have := (hif.1 h2).1
              omega
            · rw [if_neg h2] at e; omega
          by_cases h1 : loB K i < X
          · rw [if_pos h1, if_pos (by omega)]
          · rw [if_neg h1, if_neg (by omega)]
theorem round_get (p q : Int → Int → Int) {n K : Nat} (hn : n ≤ 5) (hK : K < n) (l : List Int) (hl : l.length = 2 ^ n) {i : Nat} (hi : i < 2 ^ n) : (rowTo p q K l (2 ^ n)).getD i 0 = newAt p q K l i := by
  rw [rowTo_get p q hn hK l hl _ (Nat.le_refl _) i hi, if_pos (Nat.lt_of_le_of_lt (lo_le K i) hi)]
/-- how many bits are set, of a number below 32 -/
def pop5 (m : Nat) : Nat := m % 2 + m / 2 % 2 + m / 4 % 2 + m / 8 % 2 + m / 16 % 2
/-- the sign of so many bits -/
def chi (m : Nat) : Int := if pop5 m % 2 = 0 then 1 else -1
def chiB (K i y : Nat) : Bool :=
  if i ||| 2 ^ K = i then i % 2 ^ (K + 1) == i % 2 ^ K + 2 ^ K && (i - 2 ^ K) % 2 ^ K == i % 2 ^ K && chi (y &&& (i - 2 ^ K)) == chi (y &&& i) && chi ((2 ^ K + y) &&& i) == - chi (y &&& i)
  else i % 2 ^ (K + 1) == i % 2 ^ K && (i + 2 ^ K) % 2 ^ K == i % 2 ^ K && chi (y &&& (i + 2 ^ K)) == chi (y &&& i) && chi ((2 ^ K + y) &&& i) == chi (y &&& i)
theorem chi_all : ((List.range 5).all fun K => (List.range 32).all fun i => (List.range 16).all fun y => !(decide (y < 2 ^ K)) || chiB K i y) = true := by decide +kernel
theorem chi_facts {K i y : Nat} (hK : K < 5) (hi : i < 32) (hy : y < 2 ^ K) :
    (i ||| 2 ^ K = i → i % 2 ^ (K + 1) = i % 2 ^ K + 2 ^ K ∧ (i - 2 ^ K) % 2 ^ K = i % 2 ^ K ∧ chi (y &&& (i - 2 ^ K)) = chi (y &&& i) ∧ chi ((2 ^ K + y) &&& i) = - chi (y &&& i)) ∧
     (i ||| 2 ^ K ≠ i → i % 2 ^ (K + 1) = i % 2 ^ K ∧ (i + 2 ^ K) % 2 ^ K = i % 2 ^ K ∧ chi (y &&& (i + 2 ^ K)) = chi (y &&& i) ∧ chi ((2 ^ K + y) &&& i) = chi (y &&& i)) := by
  have h16 : 2 ^ K ≤ 2 ^ 4 := Nat.pow_le_pow_right (by omega) (by omega)
  have h := List.all_eq_true.1 (List.all_eq_true.1 (List.all_eq_true.1 chi_all K (List.mem_range.2 hK)) i (List.mem_range.2 hi)) y (List.mem_range.2 (by omega))
  rw [decide_eq_true hy, Bool.not_true, Bool.false_or] at h
  unfold chiB at h
  refine ⟨fun e => ?_, fun e => ?_⟩
  · rw [if_pos e] at h
    simp only [Bool.and_eq_true, beq_iff_eq] at h
    exact ⟨h.1.1.1, h.1.1.2, h.1.2, h.2⟩
  · rw [if_neg e] at h
    simp only [Bool.and_eq_true, beq_iff_eq] at h
    exact ⟨h.1.1.1, h.1.1.2, h.1.2, h.2⟩
theorem fly_sums {n : Nat} (hn : n ≤ 5) (s : Nat → Int) (l : List Int) (hl : l.length = 2 ^ n) (hs : ∀ i, i < 2 ^ n → l.getD i 0 = s i) :
    ∀ K, K ≤ n → ∀ i, i < 2 ^ n → (flyTo (fun a b => a + b) (fun a b => a - b) (2 ^ n) l K).getD i 0 = SumI (2 ^ K) (fun y => chi (y &&& i) * s (i - i % 2 ^ K + y)) := by
  have hN : 2 ^ n ≤ 32 := Nat.pow_le_pow_right (n := 2) (by omega) hn
  intro K
  induction K with
  | zero =>
    intro _ i hi
    have e : chi (0 &&& i) = 1 := by rw [Nat.zero_and]; rfl
    simp only [Nat.pow_zero, SumI, Nat.mod_one, Nat.sub_zero, Nat.add_zero, e, flyTo]
    rw [hs i hi]; omega
  | succ K ih =>
    intro hK i hi
    have ihK := ih (by omega)
    have hP : 0 < 2 ^ K := Nat.pow_pos (by omega)
    have hlo := lo_facts K (by omega) i (by omega)
    rw [flyTo, round_get _ _ hn (by omega) _ ((flyTo_len _ _ _ _ _).trans hl) hi]
    unfold newAt
    rw [Nat.pow_succ, Nat.mul_two, SumI_append]
    have hpow : 2 ^ K + 2 ^ K = 2 ^ (K + 1) := by rw [Nat.pow_succ, Nat.mul_two]
    by_cases hb : i ||| 2 ^ K = i
    · have hge := (hlo.1 hb).1
      rw [if_pos hb, ihK _ (Nat.lt_of_le_of_lt (Nat.sub_le _ _) hi), ihK i hi]
      dsimp only
      rw [← SumI_sub, ← SumI_add]
      apply SumI_congr
      intro y hy
      obtain ⟨c1, c2, c3, c4⟩ := (chi_facts (K := K) (i := i) (y := y) (by omega) (by omega) hy).1 hb
      have hle := Nat.mod_le i (2 ^ (K + 1))
      rw [hpow]
      generalize 2 ^ K = P at *
      generalize i % 2 ^ (K + 1) = R at *
      rw [c2, c3, c4, c1]
      have e1 : i - P - i % P + y = i - (i % P + P) + y := by omega
      have e2 : i - (i % P + P) + (P + y) = i - i % P + y := by omega
      rw [e1, e2, Int.neg_mul]
      omega
    · have hge := (hlo.2 hb).1
      have hlt : i + 2 ^ K < 2 ^ n := by rw [← hge]; exact Nat.or_lt_two_pow hi (Nat.pow_lt_pow_right (by omega) (by omega))
      rw [if_neg hb, ihK i hi, ihK _ hlt]
      dsimp only
      rw [← SumI_add, ← SumI_add]
      apply SumI_congr
      intro y hy
      obtain ⟨c1, c2, c3, c4⟩ := (chi_facts (K := K) (i := i) (y := y) (by omega) (by omega) hy).2 hb
      have hle := Nat.mod_le i (2 ^ (K + 1))
      rw [hpow]
      generalize 2 ^ K = P at *
      generalize i % 2 ^ (K + 1) = R at *
      rw [c2, c3, c4, c1]
      have e2 : i + P - i % P + y = i - i % P + (P + y) := by omega
      rw [e2]
/-- the Walsh transform -/
def walN (n f : Nat) (u : Nat) : Int := SumI (2 ^ n) fun y => chi (y &&& u) * sgn f y
/-- its values -/
def wavesL (n f : Nat) : List Int := (List.range (2 ^ n)).map (walN n f)
theorem wavesL_len (n f : Nat) : (wavesL n f).length = 2 ^ n := by simp [wavesL]
theorem wavesL_get {n f u : Nat} (h : u < 2 ^ n) : (wavesL n f)[u]? = some (walN n f u) := by
  unfold wavesL
  rw [List.getElem?_map, List.getElem?_range h]; rfl
theorem getD_ext {a b : List Int} (hl : a.length = b.length) (h : ∀ i, i < a.length → a.getD i 0 = b.getD i 0) : a = b := by
  apply List.ext_getElem hl
  intro i h1 h2
  have := h i h1
  rw [List.getD_eq_getElem?_getD, List.getD_eq_getElem?_getD, List.getElem?_eq_getElem h1, List.getElem?_eq_getElem h2] at this
  exact this
theorem range_getD {N i : Nat} (s : Nat → Int) (h : i < N) : ((List.range N).map s).getD i 0 = s i := by
  rw [List.getD_eq_getElem?_getD, List.getElem?_map, List.getElem?_range h]; rfl
theorem fly_waves {n : Nat} (hn : n ≤ 5) (f : Nat) : flyTo (fun a b => a + b) (fun a b => a - b) (2 ^ n) ((List.range (2 ^ n)).map (sgn f)) n = wavesL n f := by
  refine getD_ext (by rw [flyTo_len, wavesL_len]; simp) fun i hi => ?_
  rw [flyTo_len] at hi
  have hi2 : i < 2 ^ n := by simpa using hi
  rw [fly_sums hn (sgn f) _ (by simp) (fun i h => range_getD _ h) n (Nat.le_refl _) i hi2]
  unfold wavesL
  rw [range_getD _ hi2]
  unfold walN
  apply SumI_congr
  intro y hy
  rw [Nat.mod_eq_of_lt hi2, Nat.sub_self, Nat.zero_add]
theorem sgn_cases (f x : Nat) : sgn f x = 1 ∨ sgn f x = -1 := by unfold sgn; omega
theorem chi_cases (m : Nat) : chi m = 1 ∨ chi m = -1 := by unfold chi; split <;> simp
theorem sum_bound {n K : Nat} (s : Nat → Int) (hs : ∀ x, s x = 1 ∨ s x = -1) (i : Nat) : -(2 ^ K : Nat) ≤ SumI (2 ^ K) (fun y => chi (y &&& i) * s (i - i % 2 ^ K + y)) ∧ SumI (2 ^ K) (fun y => chi (y &&& i) * s (i - i % 2 ^ K + y)) ≤ (2 ^ K : Nat) := by
  have := SumI_bound (n := 2 ^ K) (f := fun y => chi (y &&& i) * s (i - i % 2 ^ K + y)) (B := 1) (fun y _ => by
    rcases chi_cases (y &&& i) with h | h <;> rcases hs (i - i % 2 ^ K + y) with h2 | h2 <;> rw [h, h2] <;> omega)
  rw [Int.mul_one] at this
  exact this
theorem fly_bound {n : Nat} (hn : n ≤ 5) (f : Nat) : ∀ K X, K < n → X ≤ 2 ^ n → ∀ v ∈ rowTo (fun a b => a + b) (fun a b => a - b) K (flyTo (fun a b => a + b) (fun a b => a - b) (2 ^ n) ((List.range (2 ^ n)).map (sgn f)) K) X, -1073741824 ≤ v ∧ v ≤ 1073741824 := by
  intro K X hK hX v hv
  have hN : 2 ^ n ≤ 32 := Nat.pow_le_pow_right (n := 2) (by omega) hn
  have h2K : 2 ^ K ≤ 16 := Nat.pow_le_pow_right (n := 2) (by omega) (show K ≤ 4 by omega)
  obtain ⟨i, hi, rfl⟩ := List.getElem_of_mem hv
  have hl : (flyTo (fun a b => a + b) (fun a b => a - b) (2 ^ n) ((List.range (2 ^ n)).map (sgn f)) K).length = 2 ^ n := by rw [flyTo_len]; simp
  rw [rowTo_len, hl] at hi
  have hb : ∀ j, j < 2 ^ n → -16 ≤ (flyTo (fun a b => a + b) (fun a b => a - b) (2 ^ n) ((List.range (2 ^ n)).map (sgn f)) K).getD j 0 ∧ (flyTo (fun a b => a + b) (fun a b => a - b) (2 ^ n) ((List.range (2 ^ n)).map (sgn f)) K).getD j 0 ≤ 16 := fun j hj => by
    rw [fly_sums hn (sgn f) _ (by simp) (fun i h => range_getD _ h) K (by omega) j hj]
    have := sum_bound (n := n) (K := K) (sgn f) (sgn_cases f) j
    omega
  have hg := rowTo_get (fun a b => a + b) (fun a b => a - b) hn hK _ hl X hX i hi
  rw [List.getD_eq_getElem?_getD, List.getElem?_eq_getElem (by rw [rowTo_len, hl]; exact hi), Option.getD_some] at hg
  rw [hg]
  have hif := lo_facts K (by omega) i (by omega)
  have hbi := hb i hi
  split
  · unfold newAt
    split
    · rename_i h2
      have := hb (i - 2 ^ K) (Nat.lt_of_le_of_lt (Nat.sub_le _ _) hi)
      dsimp only
      omega
    · rename_i h2
      have hlt : i + 2 ^ K < 2 ^ n := by rw [← (hif.2 h2).1]; exact Nat.or_lt_two_pow hi (Nat.pow_lt_pow_right (by omega) (by omega))
      have := hb (i + 2 ^ K) hlt
      dsimp only
      omega
  · omega
/-- the orthogonality of the signs -/
theorem orth_all : ((List.range 6).all fun n => (List.range 32).all fun x => (List.range 32).all fun y => !(decide (x < 2 ^ n)) || !(decide (y < 2 ^ n)) || SumI (2 ^ n) (fun u => chi (x &&& u) * chi (y &&& u)) == if x = y then ((2 ^ n : Nat) : Int) else 0) = true := by decide +kernel
theorem chi_orth (n : Nat) (hn : n < 6) (x : Nat) (hx : x < 2 ^ n) (y : Nat) (hy : y < 2 ^ n) : SumI (2 ^ n) (fun u => chi (x &&& u) * chi (y &&& u)) = if x = y then ((2 ^ n : Nat) : Int) else 0 := by
  have hN : 2 ^ n ≤ 2 ^ 5 := Nat.pow_le_pow_right (by omega) (by omega)
  have h := List.all_eq_true.1 (List.all_eq_true.1 (List.all_eq_true.1 orth_all n (List.mem_range.2 hn)) x (List.mem_range.2 (by omega))) y (List.mem_range.2 (by omega))
  rw [decide_eq_true hx, decide_eq_true hy] at h
  simpa using h
theorem walN_back {n f x : Nat} (hn : n ≤ 5) (hx : x < 2 ^ n) : SumI (2 ^ n) (fun u => chi (x &&& u) * walN n f u) = (2 ^ n : Nat) * sgn f x := by
  have h1 : SumI (2 ^ n) (fun u => chi (x &&& u) * walN n f u) = SumI (2 ^ n) (fun u => SumI (2 ^ n) (fun y => sgn f y * (chi (x &&& u) * chi (y &&& u)))) := by
    apply SumI_congr
    intro u hu
    unfold walN
    rw [← SumI_mul]
    apply SumI_congr
    intro y hy
    rw [← Int.mul_assoc, Int.mul_comm]
  rw [h1, SumI_swap]
  have h2 : SumI (2 ^ n) (fun y => SumI (2 ^ n) (fun u => sgn f y * (chi (x &&& u) * chi (y &&& u)))) = SumI (2 ^ n) (fun y => sgn f y * (if x = y then ((2 ^ n : Nat) : Int) else 0)) := by
    apply SumI_congr
    intro y hy
    rw [SumI_mul, chi_orth n (by omega) x hx y hy]
  rw [h2, SumI_single hx (fun i _ hne => by rw [if_neg (fun e => hne e.symm), Int.mul_zero]), if_pos rfl, Int.mul_comm]
theorem parseval {n f : Nat} (hn : n ≤ 5) : SumI (2 ^ n) (fun u => walN n f u * walN n f u) = ((4 ^ n : Nat) : Int) := by
  have h1 : SumI (2 ^ n) (fun u => walN n f u * walN n f u) = SumI (2 ^ n) (fun u => SumI (2 ^ n) (fun y => sgn f y * (chi (y &&& u) * walN n f u))) := by
    apply SumI_congr
    intro u hu
    conv => lhs; arg 1; unfold walN
    rw [Int.mul_comm, ← SumI_mul]
    apply SumI_congr
    intro y hy
    rw [Int.mul_comm, Int.mul_comm (chi (y &&& u)), Int.mul_assoc]
  rw [h1, SumI_swap]
  have h2 : SumI (2 ^ n) (fun y => SumI (2 ^ n) (fun u => sgn f y * (chi (y &&& u) * walN n f u))) = SumI (2 ^ n) (fun _ => ((2 ^ n : Nat) : Int)) := by
    apply SumI_congr
    intro y hy
    rw [SumI_mul, walN_back hn hy]
    rcases sgn_cases f y with h | h <;> rw [h] <;> omega
  rw [h2, SumI_const, show (4 : Nat) = 2 * 2 from rfl, Nat.mul_pow, Int.natCast_mul]
end Go.Proofs.YtabhmhojlhagcaaDoor
