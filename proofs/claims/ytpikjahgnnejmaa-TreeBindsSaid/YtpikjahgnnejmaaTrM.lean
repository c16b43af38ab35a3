/- Plain: Merkle's tree: rows, proofs, texts. -/
import Derived.Test.YtpikjahgnnejmaaTr1
namespace Go.Proofs.Ytpikjahgnnejmaa
set_option linter.unusedVariables false
set_option linter.unusedSimpArgs false
theorem sumN_lt (xs : List Nat) : sumN xs < 65536 := fold_lt _ 0 (by omega)
/-- the row above -/
def upL : List Nat → List Nat
  | [] => []
  | [a] => [a]
  | a :: b :: t => sumN (pairN a b) :: upL t
theorem upL_len : ∀ l : List Nat, (upL l).length = (l.length + 1) / 2
  | [] => rfl
  | [a] => by simp [upL]
  | a :: b :: t => by show (upL t).length + 1 = _; rw [upL_len t]; simp only [List.length_cons]; omega
theorem upL_pair : ∀ (l : List Nat) (k : Nat), 2 * k + 1 < l.length → (upL l).getD k 0 = sumN (pairN (l.getD (2 * k) 0) (l.getD (2 * k + 1) 0))
  | [], k, h => by simp at h
  | [a], k, h => by simp at h
  | a :: b :: t, 0, h => by simp [upL]
  | a :: b :: t, k + 1, h => by
    have ih := upL_pair t k (by simp only [List.length_cons] at h; omega)
    rw [show 2 * (k + 1) = 2 * k + 1 + 1 by omega]
    simpa [upL, List.getD_eq_getElem?_getD] using ih
theorem upL_last : ∀ (l : List Nat) (k : Nat), 2 * k + 1 = l.length → (upL l).getD k 0 = l.getD (2 * k) 0
  | [], k, h => by simp at h
  | [a], k, h => by
    have : k = 0 := by simp at h; omega
    subst this; rfl
  | a :: b :: t, 0, h => by simp at h
  | a :: b :: t, k + 1, h => by
    have ih := upL_last t k (by simp only [List.length_cons] at h; omega)
    rw [show 2 * (k + 1) = 2 * k + 1 + 1 by omega]
    simpa [upL, List.getD_eq_getElem?_getD] using ih
theorem upL_lt : ∀ l : List Nat, (∀ x ∈ l, x < 65536) → ∀ x ∈ upL l, x < 65536
  | [], h, x, hx => by simp [upL] at hx
  | [a], h, x, hx => h x hx
  | a :: b :: t, h, x, hx => by
    rcases List.mem_cons.1 (show x ∈ sumN (pairN a b) :: upL t from hx) with e | e
    · rw [e]; exact sumN_lt _
    · exact upL_lt t (fun y hy => h y (by simp [hy])) x e
/-- the root and the proof -/
def climb : Nat → List Nat → Nat → List Nat → Nat × List Nat
  | 0, row, i, acc => (row.getD 0 0, acc)
  | f + 1, row, i, acc => if row.length ≤ 1 then (row.getD 0 0, acc) else climb f (upL row) (i / 2) (if (i ^^^ 1) < row.length then acc ++ [row.getD (i ^^^ 1) 0] else acc)
theorem climb_fuel : ∀ (f g : Nat) (row : List Nat) (i : Nat) (acc : List Nat), row.length ≤ f + 1 → f ≤ g → climb g row i acc = climb f row i acc
  | 0, 0, row, i, acc, h, hg => rfl
  | 0, g + 1, row, i, acc, h, hg => by
    show (if row.length ≤ 1 then _ else _) = _
    rw [if_pos (by omega)]; rfl
  | f + 1, g + 1, row, i, acc, h, hg => by
    show (if row.length ≤ 1 then _ else _) = (if row.length ≤ 1 then _ else _)
    by_cases h1 : row.length ≤ 1
    · rw [if_pos h1, if_pos h1]
    · rw [if_neg h1, if_neg h1]
      exact climb_fuel f g _ _ _ (by rw [upL_len]; omega) (by omega)
theorem climb_acc : ∀ (f : Nat) (row : List Nat) (i : Nat) (acc : List Nat), climb f row i acc = ((climb f row i []).1, acc ++ (climb f row i []).2)
  | 0, row, i, acc => by simp [climb]
  | f + 1, row, i, acc => by
    show (if row.length ≤ 1 then _ else _) = ((if row.length ≤ 1 then _ else _ : Nat × List Nat).1, acc ++ (if row.length ≤ 1 then _ else _ : Nat × List Nat).2)
    by_cases h1 : row.length ≤ 1
    · simp [if_pos h1]
    · rw [if_neg h1, if_neg h1]
      by_cases h2 : (i ^^^ 1) < row.length
      · rw [if_pos h2, if_pos h2, climb_acc f _ _ (acc ++ _), climb_acc f _ _ ([] ++ _)]
        simp
      · rw [if_neg h2, if_neg h2, climb_acc f _ _ acc]
theorem xor_one (i : Nat) : (i % 2 = 0 → i ^^^ 1 = i + 1) ∧ (i % 2 = 1 → i ^^^ 1 = i - 1) := by
  have h1 : (i ^^^ 1) / 2 = i / 2 := by
    have := Nat.shiftRight_xor_distrib (a := i) (b := 1) (i := 1)
    rw [Nat.shiftRight_eq_div_pow, Nat.shiftRight_eq_div_pow, Nat.shiftRight_eq_div_pow] at this
    simpa using this
  have h2 : (i ^^^ 1) % 2 = (i + 1) % 2 := by
    have h3 := Nat.testBit_xor i 1 0
    rw [Nat.testBit_zero, Nat.testBit_zero, Nat.testBit_zero] at h3
    clear h1
    generalize i ^^^ 1 = q at h3 ⊢
    rcases Nat.mod_two_eq_zero_or_one i with h4 | h4
    · rw [h4] at h3
      simp at h3
      omega
    · rw [h4] at h3
      simp at h3
      omega
  omega
/-- what is summed, from place (n, i) on, when the sum so far is h -/
def textsL : Nat → Nat → Nat → Nat → List Nat → Option (List (Option (List Nat)))
  | 0, n, i, h, proof => if proof = [] then some [] else none
  | f + 1, n, i, h, proof =>
    if n ≤ 1 then (if proof = [] then some [] else none)
    else if n ≤ (i ^^^ 1) then (textsL f ((n + 1) / 2) (i / 2) h proof).map (none :: ·)
    else match proof with
      | [] => none
      | p :: t =>
        let x := if i % 2 = 1 then pairN p h else pairN h p
        (textsL f ((n + 1) / 2) (i / 2) (sumN x) t).map (some x :: ·)
/-- the sum of the last that is summed -/
def lastSum (h : Nat) : List (Option (List Nat)) → Nat
  | [] => h
  | none :: t => lastSum h t
  | some x :: t => lastSum (sumN x) t
theorem prove_law : ∀ (f : Nat) (row : List Nat) (i : Nat), row.length ≤ f + 1 → i < row.length → ∃ l, textsL f row.length i (row.getD i 0) (climb f row i []).2 = some l ∧ lastSum (row.getD i 0) l = (climb f row i []).1
  | 0, row, i, hf, hi => by
    have : i = 0 := by omega
    subst this
    exact ⟨[], rfl, rfl⟩
  | f + 1, row, i, hf, hi => by
    by_cases h1 : row.length ≤ 1
    · have : i = 0 := by omega
      subst this
      refine ⟨[], ?_, ?_⟩
      · show (if row.length ≤ 1 then _ else _) = _
        rw [if_pos h1]
        show (if (if row.length ≤ 1 then _ else _ : Nat × List Nat).2 = [] then _ else _) = _
        rw [if_pos h1]; rfl
      · show _ = (if row.length ≤ 1 then _ else _ : Nat × List Nat).1
        rw [if_pos h1]; rfl
    · have hx := xor_one i
      have hu : (upL row).length = (row.length + 1) / 2 := upL_len row
      obtain ⟨l, q1, q2⟩ := prove_law f (upL row) (i / 2) (by rw [hu]; omega) (by rw [hu]; omega)
      have hc : climb (f + 1) row i [] = climb f (upL row) (i / 2) (if (i ^^^ 1) < row.length then [] ++ [row.getD (i ^^^ 1) 0] else []) := by
        show (if row.length ≤ 1 then _ else _) = _
        rw [if_neg h1]
      by_cases h2 : (i ^^^ 1) < row.length
      · rw [if_pos h2, climb_acc f (upL row) _ ([] ++ _)] at hc
        rw [hc]
        have e : (upL row).getD (i / 2) 0 = sumN (if i % 2 = 1 then pairN (row.getD (i ^^^ 1) 0) (row.getD i 0) else pairN (row.getD i 0) (row.getD (i ^^^ 1) 0)) := by
          rcases Nat.mod_two_eq_zero_or_one i with h3 | h3
          · rw [if_neg (by omega), hx.1 h3]
            have h4 : 2 * (i / 2) = i := by omega
            rw [upL_pair row (i / 2) (by rw [hx.1 h3] at h2; omega), h4]
          · rw [if_pos h3, hx.2 h3]
            have h4 : 2 * (i / 2) = i - 1 := by omega
            rw [upL_pair row (i / 2) (by omega), h4, show i - 1 + 1 = i by omega]
        refine ⟨some (if i % 2 = 1 then pairN (row.getD (i ^^^ 1) 0) (row.getD i 0) else pairN (row.getD i 0) (row.getD (i ^^^ 1) 0)) :: l, ?_, ?_⟩
        · show (if row.length ≤ 1 then _ else if row.length ≤ (i ^^^ 1) then _ else _) = _
          rw [if_neg h1, if_neg (by omega)]
          show (textsL f ((row.length + 1) / 2) (i / 2) (sumN _) (climb f (upL row) (i / 2) []).2).map _ = _
          rw [← e, ← hu, q1]
          rfl
        · show lastSum (sumN _) l = (climb f (upL row) (i / 2) []).1
          rw [← e]; exact q2
      · rw [if_neg h2] at hc
        rw [hc]
        have e : (upL row).getD (i / 2) 0 = row.getD i 0 := by
          have h3 : i % 2 = 0 := by
            rcases Nat.mod_two_eq_zero_or_one i with h3 | h3
            · exact h3
            · rw [hx.2 h3] at h2; omega
          have h4 : 2 * (i / 2) = i := by omega
          rw [upL_last row (i / 2) (by rw [hx.1 h3] at h2; omega), h4]
        refine ⟨none :: l, ?_, ?_⟩
        · show (if row.length ≤ 1 then _ else if row.length ≤ (i ^^^ 1) then _ else _) = _
          rw [if_neg h1, if_pos (by omega), ← e, ← hu, q1]
          rfl
        · show lastSum (row.getD i 0) l = _
          rw [← e]; exact q2
end Go.Proofs.Ytpikjahgnnejmaa
