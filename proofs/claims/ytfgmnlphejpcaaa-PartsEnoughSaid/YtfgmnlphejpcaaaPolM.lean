/- Plain: lists of coefficients, their sums and products. -/
import Derived.Test.YtfgmnlphejpcaaaPlus
import Derived.Test.YtfgmnlphejpcaaaSumM
import Derived.Test.YtfgmnlphejpcaaaPolR
namespace Go.Proofs.Ytfgmnlphejpcaaa
set_option linter.unusedVariables false
set_option linter.unusedSimpArgs false
theorem SumI_ext {a n : Nat} {f : Nat → Int} (h : ∀ i, a ≤ i → f i = 0) (hn : a ≤ n) : SumI n f = SumI a f := by
  obtain ⟨b, rfl⟩ : ∃ b, n = a + b := ⟨n - a, by omega⟩
  rw [SumI_append, SumI_zero (n := b) (fun i _ => h (a + i) (by omega))]; omega
theorem SumI_mod {p : Int} {f g : Nat → Int} : ∀ {n : Nat}, (∀ i, i < n → f i % p = g i % p) → SumI n f % p = SumI n g % p
  | 0, _ => rfl
  | n + 1, h => by
    unfold SumI
    rw [Int.add_emod, SumI_mod (fun i hi => h i (by omega)), h n (by omega), ← Int.add_emod]
theorem SumI_head (n : Nat) (f : Nat → Int) : SumI (n + 1) f = f 0 + SumI n (fun i => f (i + 1)) := by
  rw [Nat.add_comm, SumI_append]
  have : SumI 1 f = f 0 := by unfold SumI; unfold SumI; omega
  rw [this]
  congr 1
  exact SumI_congr fun i _ => by rw [Nat.add_comm]
theorem SumI_rev (n : Nat) : ∀ (f : Nat → Int), SumI (n + 1) f = SumI (n + 1) (fun i => f (n - i)) := by
  induction n with
  | zero => intro f; rfl
  | succ n ih =>
    intro f
    rw [SumI_head, ih (fun i => f (i + 1))]
    rw [show SumI (n + 1 + 1) (fun i => f (n + 1 - i)) = SumI (n + 1) (fun i => f (n + 1 - i)) + f (n + 1 - (n + 1)) from rfl, Nat.sub_self]
    rw [SumI_congr (f := fun i => f (n - i + 1)) (g := fun i => f (n + 1 - i)) (fun i hi => by rw [show n - i + 1 = n + 1 - i by omega])]
    omega
/-- the coefficients of a product -/
def conv (A B : Nat → Int) (n : Nat) : Int := SumI (n + 1) fun i => A i * B (n - i)
theorem conv_comm (A B : Nat → Int) (n : Nat) : conv A B n = conv B A n := by
  unfold conv
  rw [SumI_rev]
  exact SumI_congr fun i hi => by rw [show n - (n - i) = i by omega, Int.mul_comm]
theorem conv_add (A B C : Nat → Int) (n : Nat) : conv (fun i => A i + B i) C n = conv A C n + conv B C n := by
  unfold conv
  rw [← SumI_add]
  exact SumI_congr fun i _ => by rw [Int.add_mul]
theorem conv_mul (k : Int) (A B : Nat → Int) (n : Nat) : conv (fun i => k * A i) B n = k * conv A B n := by
  unfold conv
  rw [← SumI_mul]
  exact SumI_congr fun i _ => by rw [Int.mul_assoc]
theorem conv_mod {p : Int} {A A' B B' : Nat → Int} (h1 : ∀ i, A i % p = A' i % p) (h2 : ∀ i, B i % p = B' i % p) (n : Nat) : conv A B n % p = conv A' B' n % p :=
  SumI_mod fun i _ => by rw [Int.mul_emod, h1, h2, ← Int.mul_emod]
theorem conv_assoc (A B C : Nat → Int) (n : Nat) : conv (conv A B) C n = conv A (conv B C) n := by
  have h1 : conv (conv A B) C n = SumI (n + 1) fun m => SumI (n + 1) fun i => if i ≤ m then A i * B (m - i) * C (n - m) else 0 := by
    refine SumI_congr fun m hm => ?_
    show SumI (m + 1) _ * _ = _
    rw [SumI_ext (a := m + 1) (n := n + 1) (f := fun i => if i ≤ m then A i * B (m - i) * C (n - m) else 0) (fun i hi => if_neg (by omega)) (by omega), Int.mul_comm, ← SumI_mul]
    exact SumI_congr fun i hi => by rw [if_pos (by omega), Int.mul_comm]
  rw [h1, SumI_swap]
  refine SumI_congr fun i hi => ?_
  show _ = A i * SumI (n - i + 1) _
  obtain ⟨r, hr⟩ : ∃ r, n = i + r := ⟨n - i, by omega⟩
  rw [show n + 1 = i + (n - i + 1) by omega, SumI_append, SumI_zero (n := i) (fun j hj => if_neg (by omega)), Int.zero_add, ← SumI_mul]
  exact SumI_congr fun j hj => by
    rw [if_pos (by omega), Int.mul_assoc, show i + j - i = j by omega, show n - (i + j) = n - i - j by omega]
/-- the coefficients of a list -/
def co (a : List Int) (i : Nat) : Int := a.getD i 0
theorem co_out {a : List Int} {i : Nat} (h : a.length ≤ i) : co a i = 0 := by
  unfold co; rw [List.getD_eq_getElem?_getD, List.getElem?_eq_none h]; rfl
theorem co_in {a : List Int} {i : Nat} (h : i < a.length) : co a i = a[i] := by
  unfold co; rw [List.getD_eq_getElem?_getD, List.getElem?_eq_getElem h]; rfl
theorem co_rng {p : Int} {a : List Int} (hp : 1 ≤ p) (h : ∀ x ∈ a, 0 ≤ x ∧ x < p) (i : Nat) : 0 ≤ co a i ∧ co a i < p := by
  by_cases hi : i < a.length
  · rw [co_in hi]; exact h _ (List.getElem_mem _)
  · rw [co_out (by omega)]; omega
theorem trimL_congr : ∀ {a b : List Int}, (∀ i, co a i = co b i) → trimL a = trimL b
  | [], b, h => (trimL_zero fun j => (h j).symm).symm
  | a, [], h => trimL_zero fun j => h j
  | x :: a, y :: b, h => by
    have h0 : x = y := h 0
    have h1 := trimL_congr (a := a) (b := b) fun i => h (i + 1)
    unfold trimL
    rw [h0, h1]
theorem trimL_id {a : List Int} (h : a.getLastD 1 ≠ 0) : trimL a = a := by
  rw [← trimL_take a a.length (Nat.le_refl _) (fun j hj => co_out hj), List.take_length]
  intro h0
  obtain ⟨k, hk⟩ : ∃ k, a.length = k + 1 := ⟨a.length - 1, by omega⟩
  rw [hk, Nat.add_sub_cancel]
  rw [List.getLastD_eq_getLast?, List.getLast?_eq_getElem?, hk, Nat.add_sub_cancel, List.getElem?_eq_getElem (by omega)] at h
  rw [List.getD_eq_getElem?_getD, List.getElem?_eq_getElem (by omega)]
  exact h
theorem co_inj {a b : List Int} (h1 : a.getLastD 1 ≠ 0) (h2 : b.getLastD 1 ≠ 0) (h : ∀ i, co a i = co b i) : a = b := by
  rw [← trimL_id h1, ← trimL_id h2]; exact trimL_congr h
theorem co_last {a : List Int} (h1 : a.getLastD 1 ≠ 0) (h : 0 < a.length) : co a (a.length - 1) ≠ 0 := by
  obtain ⟨k, hk⟩ : ∃ k, a.length = k + 1 := ⟨a.length - 1, by omega⟩
  rw [hk, Nat.add_sub_cancel]
  rw [List.getLastD_eq_getLast?, List.getLast?_eq_getElem?, hk, Nat.add_sub_cancel, List.getElem?_eq_getElem (by omega)] at h1
  rw [co_in (by omega)]; exact h1
theorem len_at {a : List Int} {k : Nat} (h1 : a.getLastD 1 ≠ 0) (h : co a k ≠ 0) (h2 : ∀ i, k < i → co a i = 0) : a.length = k + 1 := by
  have a1 : k < a.length := Decidable.byContradiction fun e => h (co_out (by omega))
  have a2 := co_last h1 (by omega)
  have a3 : ¬ k < a.length - 1 := fun e => a2 (h2 _ e)
  omega
theorem len_le {a : List Int} {k : Nat} (h1 : a.getLastD 1 ≠ 0) (h2 : ∀ i, k ≤ i → co a i = 0) : a.length ≤ k := by
  by_cases h0 : 0 < a.length
  · have a2 := co_last h1 h0
    have a3 : ¬ k ≤ a.length - 1 := fun e => a2 (h2 _ e)
    omega
  · omega
theorem co_plusTo {p : Int} {a b : List Int} {k : Int} {up : Nat} (hp : 1 ≤ p) (ha : ∀ x ∈ a, 0 ≤ x ∧ x < p) (i : Nat) :
    co (plusTo p a b k up (max a.length (b.length + up)) b.length) i = (co a i + k * (if up ≤ i then co b (i - up) else 0)) % p := by
  have hr := co_rng hp ha i
  by_cases hi : i < max a.length (b.length + up)
  · rw [show co (plusTo p a b k up (max a.length (b.length + up)) b.length) i = _ from rfl, co, List.getD_eq_getElem?_getD, plusTo_get _ _ _ _ _ _ _ _ hi]
    by_cases h1 : up ≤ i ∧ i < up + b.length
    · rw [if_pos h1, if_pos h1.1]; rfl
    · rw [if_neg h1]
      by_cases h2 : up ≤ i
      · rw [if_pos h2, co_out (a := b) (by omega), Int.mul_zero, Int.add_zero, Int.emod_eq_of_lt hr.1 hr.2]; rfl
      · rw [if_neg h2, Int.mul_zero, Int.add_zero, Int.emod_eq_of_lt hr.1 hr.2]; rfl
  · rw [co_out (by rw [plusTo_len]; omega), co_out (by omega)]
    by_cases h2 : up ≤ i
    · rw [if_pos h2, co_out (a := b) (by omega)]; simp
    · rw [if_neg h2]; simp
theorem co_plus {p : Int} {a b : List Int} {k : Int} {up : Nat} (hp : 1 ≤ p) (ha : ∀ x ∈ a, 0 ≤ x ∧ x < p) (i : Nat) :
    co (plusL p a b k up) i = (co a i + k * (if up ≤ i then co b (i - up) else 0)) % p := by
  unfold plusL
  rw [show co (trimL _) i = _ from trimL_get _ i]
  exact co_plusTo hp ha i
theorem plusL_last (p : Int) (a b : List Int) (k : Int) (up : Nat) : (plusL p a b k up).getLastD 1 ≠ 0 := trimL_last _
theorem plusL_len (p : Int) (a b : List Int) (k : Int) (up : Nat) : (plusL p a b k up).length ≤ max a.length (b.length + up) := by
  have := trimL_len (plusTo p a b k up (max a.length (b.length + up)) b.length)
  rw [plusTo_len] at this
  exact this
theorem plusL_rng {p : Int} {a b : List Int} {k : Int} {up : Nat} (hp : 1 ≤ p) (ha : ∀ x ∈ a, 0 ≤ x ∧ x < p) : ∀ x ∈ plusL p a b k up, 0 ≤ x ∧ x < p := by
  intro x hx
  obtain ⟨i, hi, rfl⟩ := List.mem_iff_getElem.1 hx
  rw [← co_in hi, co_plus hp ha]
  exact ⟨Int.emod_nonneg _ (by omega), Int.emod_lt_of_pos _ (by omega)⟩
/-- a product, as far as the loop has come -/
def timesTo (p : Int) (a b : List Int) : Nat → List Int
  | 0 => []
  | I + 1 => plusL p (timesTo p a b I) b (co a I) I
/-- a product -/
def timesL (p : Int) (a b : List Int) : List Int := timesTo p a b a.length
theorem timesTo_rng {p : Int} {a b : List Int} (hp : 1 ≤ p) : ∀ I, ∀ x ∈ timesTo p a b I, 0 ≤ x ∧ x < p
  | 0 => fun x hx => by simp [timesTo] at hx
  | I + 1 => plusL_rng hp (timesTo_rng hp I)
theorem timesTo_last (p : Int) (a b : List Int) : ∀ I, (timesTo p a b I).getLastD 1 ≠ 0
  | 0 => by simp [timesTo]
  | I + 1 => plusL_last _ _ _ _ _
theorem timesTo_len (p : Int) (a b : List Int) : ∀ I, (timesTo p a b I).length ≤ b.length + I
  | 0 => by simp [timesTo]
  | I + 1 => by
    have h1 := plusL_len p (timesTo p a b I) b (co a I) I
    have h2 := timesTo_len p a b I
    show (plusL p (timesTo p a b I) b (co a I) I).length ≤ _
    omega
theorem co_timesTo {p : Int} {a b : List Int} (hp : 1 ≤ p) (n : Nat) : ∀ I, co (timesTo p a b I) n = SumI I (fun i => co a i * (if i ≤ n then co b (n - i) else 0)) % p
  | 0 => by show (0 : Int) = 0 % p; simp
  | I + 1 => by
    show co (plusL p (timesTo p a b I) b (co a I) I) n = _
    rw [co_plus hp (timesTo_rng hp I), co_timesTo hp n I, Int.emod_add_emod]
    rfl
theorem co_times {p : Int} {a b : List Int} (hp : 1 ≤ p) (n : Nat) : co (timesL p a b) n = conv (co a) (co b) n % p := by
  unfold timesL
  rw [co_timesTo hp]
  congr 1
  have h1 := SumI_ext (a := a.length) (n := a.length + (n + 1)) (f := fun i => co a i * (if i ≤ n then co b (n - i) else 0)) (fun i hi => by rw [co_out hi, Int.zero_mul]) (by omega)
  have h2 := SumI_ext (a := n + 1) (n := a.length + (n + 1)) (f := fun i => co a i * (if i ≤ n then co b (n - i) else 0)) (fun i hi => by rw [if_neg (by omega), Int.mul_zero]) (by omega)
  rw [← h1, h2]
  exact SumI_congr fun i hi => by rw [if_pos (by omega)]
theorem timesL_len (p : Int) (a b : List Int) : (timesL p a b).length ≤ b.length + a.length := timesTo_len _ _ _ _
theorem timesL_last (p : Int) (a b : List Int) : (timesL p a b).getLastD 1 ≠ 0 := timesTo_last _ _ _ _
theorem timesL_rng {p : Int} {a b : List Int} (hp : 1 ≤ p) : ∀ x ∈ timesL p a b, 0 ≤ x ∧ x < p := timesTo_rng hp _
theorem ring_comm {p : Int} (hp : 1 ≤ p) (a b : List Int) : timesL p a b = timesL p b a :=
  co_inj (timesL_last _ _ _) (timesL_last _ _ _) fun i => by rw [co_times hp, co_times hp, conv_comm]
theorem ring_assoc {p : Int} (hp : 1 ≤ p) (a b c : List Int) : timesL p (timesL p a b) c = timesL p a (timesL p b c) :=
  co_inj (timesL_last _ _ _) (timesL_last _ _ _) fun i => by
    rw [co_times hp, co_times hp]
    rw [conv_mod (A' := conv (co a) (co b)) (B' := co c) (fun i => by rw [co_times hp, Int.emod_emod]) (fun i => rfl)]
    rw [conv_mod (A := co a) (A' := co a) (B := co (timesL p b c)) (B' := conv (co b) (co c)) (fun i => rfl) (fun i => by rw [co_times hp, Int.emod_emod]), conv_assoc]
theorem co_sum {p : Int} {a b : List Int} (hp : 1 ≤ p) (ha : ∀ x ∈ a, 0 ≤ x ∧ x < p) (i : Nat) : co (plusL p a b 1 0) i = (co a i + co b i) % p := by
  rw [co_plus hp ha, if_pos (Nat.zero_le _), Int.one_mul, Nat.sub_zero]
theorem ring_addc {p : Int} (hp : 1 ≤ p) {a b : List Int} (ha : ∀ x ∈ a, 0 ≤ x ∧ x < p) (hb : ∀ x ∈ b, 0 ≤ x ∧ x < p) : plusL p a b 1 0 = plusL p b a 1 0 :=
  co_inj (plusL_last _ _ _ _ _) (plusL_last _ _ _ _ _) fun i => by rw [co_sum hp ha, co_sum hp hb, Int.add_comm]
theorem ring_dist {p : Int} (hp : 1 ≤ p) {a b : List Int} (c : List Int) (ha : ∀ x ∈ a, 0 ≤ x ∧ x < p) : timesL p (plusL p a b 1 0) c = plusL p (timesL p a c) (timesL p b c) 1 0 :=
  co_inj (timesL_last _ _ _) (plusL_last _ _ _ _ _) fun i => by
    rw [co_sum hp (timesL_rng hp), co_times hp, co_times hp, co_times hp]
    rw [conv_mod (A' := fun i => co a i + co b i) (B' := co c) (fun i => by rw [co_sum hp ha, Int.emod_emod]) (fun i => rfl), conv_add, Int.add_emod]
theorem prime_mul {p : Int} (hp : prB p = true) (h2 : 2 ≤ p) {a b : Int} (ha : 0 ≤ a ∧ a < p) (hb : 0 ≤ b ∧ b < p) (a0 : a ≠ 0) (b0 : b ≠ 0) : a * b % p ≠ 0 := by
  intro h
  obtain ⟨P, rfl⟩ : ∃ P : Nat, p = P := ⟨p.toNat, by omega⟩
  obtain ⟨x, rfl⟩ : ∃ x : Nat, a = x := ⟨a.toNat, by omega⟩
  obtain ⟨y, rfl⟩ : ∃ y : Nat, b = y := ⟨b.toNat, by omega⟩
  have hP : M.Pr P := by simpa using prB_true hp
  have hd : P ∣ x * y := Nat.dvd_of_mod_eq_zero (by exact_mod_cast h)
  rcases hP.dvd_mul hd with h | h
  · have := Nat.le_of_dvd (by omega) h; omega
  · have := Nat.le_of_dvd (by omega) h; omega
theorem ring_len {p : Int} (hp : prB p = true) (h2 : 2 ≤ p) {a b : List Int} (ha : ∀ x ∈ a, 0 ≤ x ∧ x < p) (hb : ∀ x ∈ b, 0 ≤ x ∧ x < p) (la : a.getLastD 1 ≠ 0) (lb : b.getLastD 1 ≠ 0) (a0 : 0 < a.length) (b0 : 0 < b.length) :
    (timesL p a b).length = a.length + b.length - 1 := by
  have e : a.length + b.length - 1 = a.length + b.length - 2 + 1 := by omega
  rw [e]
  refine len_at (timesL_last _ _ _) ?_ fun i hi => ?_
  · rw [co_times (by omega)]
    unfold conv
    rw [SumI_single (k := a.length - 1) (by omega) (fun i hi hne => by
      by_cases h1 : a.length ≤ i
      · rw [co_out h1, Int.zero_mul]
      · rw [co_out (a := b) (by omega), Int.mul_zero]), show a.length + b.length - 2 - (a.length - 1) = b.length - 1 by omega]
    exact prime_mul hp h2 (co_rng (by omega) ha _) (co_rng (by omega) hb _) (co_last la a0) (co_last lb b0)
  · rw [co_times (by omega)]
    unfold conv
    rw [SumI_zero fun j hj => by
      by_cases h1 : a.length ≤ j
      · rw [co_out h1, Int.zero_mul]
      · rw [co_out (a := b) (by omega), Int.mul_zero]]
    simp
end Go.Proofs.Ytfgmnlphejpcaaa
