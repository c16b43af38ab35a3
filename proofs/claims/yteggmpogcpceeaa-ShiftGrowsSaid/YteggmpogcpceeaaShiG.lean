/- Plain: equations of bits, summed by their highest taps. -/
import Derived.Test.YteggmpogcpceeaaShiW
namespace Go.Proofs.Yteggmpogcpceeaa
namespace Sh
set_option linter.unusedVariables false
set_option linter.unusedSimpArgs false
/-- the rows by their highest taps -/
abbrev Tab := Nat → Option (Nat × Bool)
def Tab.put (R : Tab) (top : Nat) (v : Nat × Bool) : Tab := fun k => if k = top then some v else R k
/-- each row has the tap it lies by, and none above -/
def Tab.Ok (R : Tab) (n : Nat) : Prop := ∀ k r b, R k = some (r, b) → 0 < k ∧ k ≤ n ∧ r.testBit (k - 1) = true ∧ r < 2 ^ k
/-- taps that all rows hold for -/
def Tab.Sat (R : Tab) (n : Nat) (t : Nat → Bool) : Prop := ∀ k r b, R k = some (r, b) → dot (fun i => r.testBit i) t n = b
theorem Tab.Ok.put {R : Tab} {n k r : Nat} {b : Bool} (h : R.Ok n) (h1 : 0 < k) (h2 : k ≤ n) (h3 : r.testBit (k - 1) = true) (h4 : r < 2 ^ k) : (R.put k (r, b)).Ok n := by
  intro j r' b' e
  unfold Tab.put at e
  by_cases c : j = k
  · rw [if_pos c] at e
    obtain ⟨rfl, rfl⟩ := Prod.mk.inj (Option.some.inj e)
    subst c
    exact ⟨h1, h2, h3, h4⟩
  · rw [if_neg c] at e
    exact h j r' b' e
theorem Tab.sat_put {R : Tab} {n k r : Nat} {b : Bool} (h : R k = none) (t : Nat → Bool) : (R.put k (r, b)).Sat n t ↔ R.Sat n t ∧ dot (fun i => r.testBit i) t n = b := by
  constructor
  · intro hs
    refine ⟨fun j r' b' e => hs j r' b' ?_, hs k r b (if_pos rfl)⟩
    unfold Tab.put
    rw [if_neg fun c => by rw [c, h] at e; cases e]
    exact e
  · rintro ⟨h1, h2⟩ j r' b' e
    unfold Tab.put at e
    by_cases c : j = k
    · rw [if_pos c] at e
      obtain ⟨rfl, rfl⟩ := Prod.mk.inj (Option.some.inj e)
      exact h2
    · rw [if_neg c] at e
      exact h1 j r' b' e
/-- one row more or less in an equation -/
theorem dot_row {p r : Nat} {n : Nat} {t : Nat → Bool} : dot (fun i => (p ^^^ r).testBit i) t n = Bool.xor (dot (fun i => p.testBit i) t n) (dot (fun i => r.testBit i) t n) := by
  rw [← xor_dot]
  refine dot_congr n fun i _ => ?_
  show ((p ^^^ r).testBit i && t i) = _
  rw [Nat.testBit_xor]
theorem row_less {p r k : Nat} (hk : 0 < k) (hp : p < 2 ^ k) (hp2 : p.testBit (k - 1) = true) (hr : r < 2 ^ k) (hr2 : r.testBit (k - 1) = true) : p ^^^ r < 2 ^ (k - 1) := by
  refine Nat.lt_pow_two_of_testBit _ fun i hi => ?_
  rw [Nat.testBit_xor]
  by_cases c : i = k - 1
  · rw [c, hp2, hr2]; rfl
  · rw [Nat.testBit_lt_two_pow (Nat.lt_of_lt_of_le hp (Nat.pow_le_pow_right (by omega) (by omega))), Nat.testBit_lt_two_pow (Nat.lt_of_lt_of_le hr (Nat.pow_le_pow_right (by omega) (by omega)))]; rfl
/-- an equation as a word: what the next bit must be -/
theorem dot_back {s t : Nat → Bool} {L n : Nat} : dot (fun i => (wordOf (backF s n) L).testBit i) t L = nxt t L s n := by
  unfold nxt
  rw [dot_comm]
  refine dot_congr L fun i hi => ?_
  show (t i && (wordOf (backF s n) L).testBit i) = (t i && s (n - 1 - i))
  rw [wordOf_bit, decide_eq_true hi, Bool.true_and]
  rfl
theorem Mk.step {t s : Nat → Bool} {L n : Nat} (hn : L ≤ n) : Mk t L s (n + 1) ↔ Mk t L s n ∧ nxt t L s n = s n :=
  ⟨fun h => ⟨h.mono (by omega), (h n hn (by omega)).symm⟩, fun h => h.1.succ fun _ => h.2.symm⟩
theorem Mk.first (t s : Nat → Bool) (L : Nat) : Mk t L s L := fun m h1 h2 => by omega
/-- taps from the lowest up -/
def solve (R : Tab) : Nat → Nat
  | 0 => 0
  | i + 1 => match R (i + 1) with
    | some (r, b) => if dot (fun j => (r &&& solve R i).testBit j) (fun _ => true) 64 = b then solve R i else solve R i ||| (1 <<< i)
    | none => solve R i
theorem solve_lt (R : Tab) : ∀ i, solve R i < 2 ^ i
  | 0 => by show 0 < 1; omega
  | i + 1 => by
    have ih := solve_lt R i
    have h2 : solve R i < 2 ^ (i + 1) := Nat.lt_of_lt_of_le ih (Nat.pow_le_pow_right (by omega) (by omega))
    have h3 : (1 : Nat) <<< i < 2 ^ (i + 1) := by rw [Nat.shiftLeft_eq, Nat.one_mul]; exact Nat.pow_lt_pow_right (by omega) (by omega)
    unfold solve
    split
    · split
      · exact h2
      · exact Nat.or_lt_two_pow h2 h3
    · exact h2
theorem solve_bit (R : Tab) {i j : Nat} (h : j < i) : ∀ m, i ≤ m → (solve R m).testBit j = (solve R i).testBit j
  | 0, hm => by have : i = 0 := by omega
                omega
  | m + 1, hm => by
    by_cases c : i = m + 1
    · rw [c]
    · have ih := solve_bit R h m (by omega)
      rw [← ih]
      conv => lhs; unfold solve
      split
      · split
        · rfl
        · rw [Nat.testBit_or, one_shift_bit, decide_eq_false (by omega), Bool.or_false]
      · rfl
theorem and_dot {a b n : Nat} (hb : b < 2 ^ n) (hn : n ≤ 64) : dot (fun j => (a &&& b).testBit j) (fun _ => true) 64 = dot (fun j => a.testBit j) (fun j => b.testBit j) n := by
  rw [dot_to hn (fun j hj _ => ?_)]
  · refine dot_congr n fun j hj => ?_
    show ((a &&& b).testBit j && true) = _
    rw [Nat.testBit_and, Bool.and_true]
  · show ((a &&& b).testBit j && true) = false
    rw [Nat.testBit_and, Nat.testBit_lt_two_pow (Nat.lt_of_lt_of_le hb (Nat.pow_le_pow_right (by omega) hj)), Bool.and_false]; rfl
/-- so all rows hold -/
theorem solve_sat {R : Tab} {n : Nat} (h : R.Ok n) (hn : n ≤ 64) : R.Sat n (fun i => (solve R n).testBit i) := by
  intro k r b e
  obtain ⟨h1, h2, h3, h4⟩ := h k r b e
  obtain ⟨i, rfl⟩ : ∃ i, k = i + 1 := ⟨k - 1, by omega⟩
  rw [Nat.add_sub_cancel] at h3
  have hcut : dot (fun j => r.testBit j) (fun j => (solve R n).testBit j) n = dot (fun j => r.testBit j) (fun j => (solve R (i + 1)).testBit j) (i + 1) := by
    rw [dot_to h2 (fun j hj _ => by
      show (r.testBit j && _) = false
      rw [Nat.testBit_lt_two_pow (Nat.lt_of_lt_of_le h4 (Nat.pow_le_pow_right (by omega) hj))]; rfl)]
    refine dot_congr _ fun j hj => ?_
    show (r.testBit j && (solve R n).testBit j) = (r.testBit j && (solve R (i + 1)).testBit j)
    rw [solve_bit R hj n h2]
  rw [hcut]
  have hl := solve_lt R i
  have ha : dot (fun j => (r &&& solve R i).testBit j) (fun _ => true) 64 = dot (fun j => r.testBit j) (fun j => (solve R i).testBit j) i := and_dot hl (by omega)
  have hlow : dot (fun j => r.testBit j) (fun j => (solve R (i + 1)).testBit j) i = dot (fun j => r.testBit j) (fun j => (solve R i).testBit j) i := dot_congr i fun j hj => by
    show (r.testBit j && (solve R (i + 1)).testBit j) = (r.testBit j && (solve R i).testBit j)
    rw [solve_bit R hj (i + 1) (by omega)]
  show Bool.xor (dot (fun j => r.testBit j) (fun j => (solve R (i + 1)).testBit j) i) (r.testBit i && (solve R (i + 1)).testBit i) = b
  rw [hlow, h3, Bool.true_and]
  have hi0 : (solve R i).testBit i = false := Nat.testBit_lt_two_pow hl
  have hdef : solve R (i + 1) = if dot (fun j => (r &&& solve R i).testBit j) (fun _ => true) 64 = b then solve R i else solve R i ||| (1 <<< i) := by
    conv => lhs; unfold solve
    rw [e]
  rw [hdef, ha]
  by_cases c : dot (fun j => r.testBit j) (fun j => (solve R i).testBit j) i = b
  · rw [if_pos c, hi0, c, Bool.xor_false]
  · rw [if_neg c, Nat.testBit_or, hi0, one_shift_bit, decide_eq_true rfl]
    revert c
    generalize dot (fun j => r.testBit j) (fun j => (solve R i).testBit j) i = q
    cases q <;> cases b <;> simp
end Sh
end Go.Proofs.Yteggmpogcpceeaa
