/- Plain: polynomials of up to 65 bits in two words. -/
import Derived.Test.YteggmpogcpceeaaPop
namespace Go.Proofs.Yteggmpogcpceeaa
namespace Sh
set_option linter.unusedVariables false
set_option linter.unusedSimpArgs false
theorem half_words {C : Nat} (h : C < 2 ^ 65) : (C % 18446744073709551616) / 2 ||| (C / 18446744073709551616) * 9223372036854775808 = C / 2 := by
  have e := Nat.two_pow_add_eq_or_of_lt (i := 63) (b := (C % 18446744073709551616) / 2) (by omega) (C / 18446744073709551616)
  rw [Nat.or_comm, Nat.mul_comm, show (9223372036854775808 : Nat) = 2 ^ 63 from rfl, ← e]
  omega
theorem testBit_up {C B k : Nat} (i : Nat) : (C ^^^ (B <<< k)).testBit i = up C.testBit B.testBit k i := by
  unfold up
  rw [Nat.testBit_xor, Nat.testBit_shiftLeft]
theorem lt_of_bits {x n : Nat} (h : ∀ i, n ≤ i → x.testBit i = false) : x < 2 ^ n := Nat.lt_pow_two_of_testBit _ fun i hi => h i hi
/-- the words of a polynomial behind a step -/
theorem up_words {C B k : Nat} (hk : 0 < k) (hk2 : k ≤ 64) (hB : B <<< k < 2 ^ 65) :
    (C ^^^ (B <<< k)) % 18446744073709551616 = (C % 18446744073709551616) ^^^ ((B % 18446744073709551616) * 2 ^ k % 18446744073709551616) ∧
    (C ^^^ (B <<< k)) / 18446744073709551616 = (C / 18446744073709551616) ^^^ (((B / 18446744073709551616) * 2 ^ k % 18446744073709551616) ||| ((B % 18446744073709551616) / 2 ^ (64 - k))) := by
  have hB2 : B < 18446744073709551616 := by
    rw [Nat.shiftLeft_eq] at hB
    have h2 : B * 2 ≤ B * 2 ^ k := Nat.mul_le_mul_left _ (by
      have := Nat.pow_le_pow_right (n := 2) (by omega) (show 1 ≤ k from hk)
      simpa using this)
    have : B * 2 < 2 ^ 65 := Nat.lt_of_le_of_lt h2 hB
    omega
  rw [Nat.mod_eq_of_lt hB2, Nat.div_eq_of_lt hB2, Nat.zero_mul, Nat.zero_mod, Nat.zero_or]
  constructor
  · rw [show (18446744073709551616 : Nat) = 2 ^ 64 from rfl, Nat.xor_mod_two_pow, Nat.shiftLeft_eq]
  · rw [show (18446744073709551616 : Nat) = 2 ^ 64 from rfl, Nat.xor_div_two_pow, Nat.shiftLeft_eq]
    congr 1
    rw [show (2 : Nat) ^ 64 = 2 ^ k * 2 ^ (64 - k) by rw [← Nat.pow_add]; congr 1; omega, Nat.mul_comm B, Nat.mul_div_mul_left _ _ (Nat.pow_pos (by omega))]
/-- the bits behind place n, the last one lowest -/
def backF (s : Nat → Bool) (n : Nat) : Nat → Bool := fun i => s (n - 1 - i)
/-- whether a polynomial fits the next bit -/
theorem fits {C L n : Nat} {s : Nat → Bool} (hL : L ≤ n) (hn : n ≤ 64) (h0 : C.testBit 0 = true) (hC : ∀ i, L < i → C.testBit i = false) :
    (dot (fun i => (wordOf (backF s n) L &&& C / 2).testBit i) (fun _ => true) 64 == s n) = !(disc C.testBit s n) := by
  have e : dot (fun i => (wordOf (backF s n) L &&& C / 2).testBit i) (fun _ => true) 64 = nxt (fun i => C.testBit (i + 1)) L s n := by
    unfold nxt
    rw [dot_to (k := L) (by omega) (fun i h1 _ => ?_)]
    · refine dot_congr L fun i hi => ?_
      show ((wordOf (backF s n) L &&& C / 2).testBit i && true) = (C.testBit (i + 1) && s (n - 1 - i))
      rw [Nat.testBit_and, wordOf_bit, decide_eq_true hi, Bool.true_and, Bool.and_true, Nat.testBit_div_two, Bool.and_comm]
      rfl
    · show ((wordOf (backF s n) L &&& C / 2).testBit i && true) = false
      rw [Nat.testBit_and, wordOf_bit, decide_eq_false (by omega)]; rfl
  rw [e, disc_nxt h0 hC hL]
  cases s n <;> cases nxt (fun i => C.testBit (i + 1)) L s n <;> rfl
theorem nat_of_deg {C L : Nat} (hL : L ≤ 64) (hC : ∀ i, L < i → C.testBit i = false) : C < 2 ^ 65 := lt_of_bits fun i hi => hC i (by omega)
/-- what is added stays below 65 bits -/
theorem added_lt {s : Nat → Bool} {n C B L k : Nat} (h : Inv s n C.testBit B.testBit L k) (hn : n < 64) (hd : disc C.testBit s n = true) : B <<< k < 2 ^ 65 := by
  have hle := h.le
  obtain ⟨_, f2, _⟩ := h.up_facts hd (L' := n + 1) (by omega) (by omega) (by omega)
  refine lt_of_bits fun i hi => ?_
  have h1 := f2 i (by omega)
  unfold up at h1
  rw [h.deg i (by omega), Bool.false_xor] at h1
  rw [Nat.testBit_shiftLeft]
  exact h1
theorem Inv.word {s : Nat → Bool} {n C B k L' k' : Nat} {B' : Nat → Bool} (h : Inv s n (up C.testBit B.testBit k) B' L' k') : Inv s n (C ^^^ (B <<< k)).testBit B' L' k' := by
  have e : (C ^^^ (B <<< k)).testBit = up C.testBit B.testBit k := funext fun i => testBit_up i
  rw [e]; exact h
theorem Inv.begin (s : Nat → Bool) : Inv s 0 (1 : Nat).testBit (1 : Nat).testBit 0 1 := by
  have h1 : ∀ i, 0 < i → (1 : Nat).testBit i = false := fun i hi => Nat.testBit_lt_two_pow (Nat.one_lt_two_pow (by omega))
  exact Inv.init s rfl h1 rfl h1
end Sh
end Go.Proofs.Yteggmpogcpceeaa
