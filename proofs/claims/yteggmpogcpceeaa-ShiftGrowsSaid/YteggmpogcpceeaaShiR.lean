/- Plain: what a rule makes. -/
import Derived.Test.YteggmpogcpceeaaPop
namespace Go.Proofs.Yteggmpogcpceeaa
namespace Sh
set_option linter.unusedVariables false
set_option linter.unusedSimpArgs false
def runB (t f : Nat → Bool) (L n : Nat) (r : List Bool) : Bool := if n < L then f n else dot t (fun i => r.getD (n - 1 - i) false) L
/-- what a rule makes out of its first bits -/
def runP (t f : Nat → Bool) (L : Nat) : Nat → List Bool
  | 0 => []
  | n + 1 => runP t f L n ++ [runB t f L n (runP t f L n)]
theorem runP_len (t f : Nat → Bool) (L : Nat) : ∀ n, (runP t f L n).length = n
  | 0 => rfl
  | n + 1 => by
    show (runP t f L n ++ [_]).length = n + 1
    rw [List.length_append, runP_len t f L n]; rfl
theorem map_getD (s : Nat → Bool) {n i : Nat} (h : i < n) : ((List.range n).map s).getD i false = s i := by
  rw [List.getD_eq_getElem?_getD, List.getElem?_map, List.getElem?_range h]; rfl
theorem runP_iff {t f s : Nat → Bool} {L : Nat} (hf : ∀ i, i < L → f i = s i) : ∀ n, runP t f L n = (List.range n).map s ↔ Mk t L s n
  | 0 => ⟨fun _ m _ h => by omega, fun _ => rfl⟩
  | n + 1 => by
    have ih := runP_iff (t := t) hf n
    show runP t f L n ++ [runB t f L n (runP t f L n)] = _ ↔ _
    rw [List.range_succ, List.map_append]
    constructor
    · intro h
      obtain ⟨h1, h2⟩ := List.append_inj' h rfl
      have hm := ih.1 h1
      refine hm.succ fun hl => ?_
      have h3 : runB t f L n (runP t f L n) = s n := by simpa using h2
      rw [← h3]
      unfold runB nxt
      rw [if_neg (by omega), h1]
      refine dot_congr L fun i hi => ?_
      show (t i && _) = (t i && s (n - 1 - i))
      rw [map_getD s (by omega)]
    · intro h
      have h1 := ih.2 (h.mono (by omega))
      have h3 : runB t f L n (runP t f L n) = s n := by
        unfold runB
        by_cases c : n < L
        · rw [if_pos c, hf n c]
        · rw [if_neg c, h n (by omega) (by omega), h1]
          unfold nxt
          refine dot_congr L fun i hi => ?_
          show (t i && _) = (t i && s (n - 1 - i))
          rw [map_getD s (by omega)]
      rw [h3, h1]
      rfl
/-- the bits behind, the last one lowest -/
def pastF (r : List Bool) (n : Nat) : Nat → Bool := fun j => r.getD (n - 1 - j) false
theorem past_step (t f : Nat → Bool) (L n : Nat) : wordOf (pastF (runP t f L (n + 1)) (n + 1)) (n + 1) = 2 * wordOf (pastF (runP t f L n) n) n + (if runB t f L n (runP t f L n) = true then 1 else 0) := by
  apply Nat.eq_of_testBit_eq
  intro i
  rw [wordOf_bit]
  have hl := runP_len t f L n
  have e : runP t f L (n + 1) = runP t f L n ++ [runB t f L n (runP t f L n)] := rfl
  unfold pastF
  rw [e]
  generalize runB t f L n (runP t f L n) = b
  generalize runP t f L n = r at *
  have hb : (if b = true then 1 else 0) < 2 ^ 1 := by cases b <;> decide
  rw [show (2 : Nat) = 2 ^ 1 from rfl, Nat.testBit_two_pow_mul_add _ hb]
  by_cases c : i < 1
  · obtain rfl : i = 0 := by omega
    rw [if_pos c, decide_eq_true (by omega), Bool.true_and, List.getD_eq_getElem?_getD, List.getElem?_append_right (by omega)]
    rw [show n + 1 - 1 - 0 - r.length = 0 by omega]
    cases b <;> rfl
  · obtain ⟨j, rfl⟩ : ∃ j, i = j + 1 := ⟨i - 1, by omega⟩
    rw [if_neg c, wordOf_bit, show j + 1 - 1 = j from rfl]
    by_cases d : j < n
    · rw [decide_eq_true (by omega), decide_eq_true d, Bool.true_and, Bool.true_and, List.getD_eq_getElem?_getD, List.getElem?_append_left (by omega), List.getD_eq_getElem?_getD]
      rw [show n + 1 - 1 - (j + 1) = n - 1 - j by omega]
    · rw [decide_eq_false (by omega), decide_eq_false d]; rfl
/-- whether an odd number of the bits of two words are set -/
theorem odd_and {f g : Nat → Bool} {n m : Nat} (hm : m ≤ 64) (k : Nat) (hk : k ≤ 64) (h : ∀ i, k ≤ i → (f i && decide (i < n) && (g i && decide (i < m))) = false) (h2 : ∀ i, i < k → i < n ∧ i < m) :
    dot (fun i => (wordOf f n &&& wordOf g m).testBit i) (fun _ => true) 64 = dot f g k := by
  rw [dot_to hk (fun i h1 _ => ?_)]
  · refine dot_congr k fun i hi => ?_
    show ((wordOf f n &&& wordOf g m).testBit i && true) = _
    obtain ⟨h3, h4⟩ := h2 i hi
    rw [Nat.testBit_and, wordOf_bit, wordOf_bit, decide_eq_true h3, decide_eq_true h4, Bool.true_and, Bool.true_and, Bool.and_true]
  · show ((wordOf f n &&& wordOf g m).testBit i && true) = false
    have := h i h1
    rw [Nat.testBit_and, wordOf_bit, wordOf_bit, Bool.and_true, Bool.and_comm (decide (i < n)), Bool.and_comm (decide (i < m))]
    exact this
end Sh
end Go.Proofs.Yteggmpogcpceeaa
