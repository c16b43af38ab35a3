/- Plain: two ways to one root from unlike leafs tell two unlike texts with one sum. -/
import Derived.Test.YtpikjahgnnejmaaTrM
namespace Go.Proofs.Ytpikjahgnnejmaa
set_option linter.unusedVariables false
set_option linter.unusedSimpArgs false
theorem pairN_inj {a b c d : Nat} (ha : a < 65536) (hb : b < 65536) (hc : c < 65536) (hd : d < 65536) (h : pairN a b = pairN c d) : a = c ∧ b = d := by
  unfold pairN at h
  simp only [List.cons.injEq, and_true, true_and] at h
  omega
/-- the first two that are summed in one place and have one sum -/
def alike : List (Option (List Nat)) → List (Option (List Nat)) → Option (List Nat × List Nat)
  | some x :: X, some y :: Y => if sumN x = sumN y then some (x, y) else alike X Y
  | none :: X, _ :: Y => alike X Y
  | _, _ => none
theorem binds_law : ∀ (f n i h h' : Nat) (p q : List Nat) (l m : List (Option (List Nat))), h < 65536 → h' < 65536 → (∀ x ∈ p, x < 65536) → (∀ x ∈ q, x < 65536) → h ≠ h' →
    textsL f n i h p = some l → textsL f n i h' q = some m → lastSum h l = lastSum h' m → ∃ x y, alike l m = some (x, y) ∧ x ≠ y ∧ sumN x = sumN y
  | 0, n, i, h, h', p, q, l, m, hh, hh', hp, hq, hne, e1, e2, e3 => by
    have a1 : l = [] := by
      unfold textsL at e1; split at e1
      · exact (Option.some.inj e1).symm
      · cases e1
    have a2 : m = [] := by
      unfold textsL at e2; split at e2
      · exact (Option.some.inj e2).symm
      · cases e2
    subst a1; subst a2
    exact absurd e3 hne
  | f + 1, n, i, h, h', p, q, l, m, hh, hh', hp, hq, hne, e1, e2, e3 => by
    unfold textsL at e1 e2
    by_cases h1 : n ≤ 1
    · rw [if_pos h1] at e1 e2
      have a1 : l = [] := by
        split at e1
        · exact (Option.some.inj e1).symm
        · cases e1
      have a2 : m = [] := by
        split at e2
        · exact (Option.some.inj e2).symm
        · cases e2
      subst a1; subst a2
      exact absurd e3 hne
    · rw [if_neg h1] at e1 e2
      by_cases h2 : n ≤ (i ^^^ 1)
      · rw [if_pos h2] at e1 e2
        obtain ⟨l', q1, rfl⟩ := Option.map_eq_some_iff.1 e1
        obtain ⟨m', q2, rfl⟩ := Option.map_eq_some_iff.1 e2
        exact binds_law f _ _ h h' p q l' m' hh hh' hp hq hne q1 q2 e3
      · rw [if_neg h2] at e1 e2
        cases p with
        | nil => cases e1
        | cons a p =>
          cases q with
          | nil => cases e2
          | cons b q =>
            simp only at e1 e2
            obtain ⟨l', q1, rfl⟩ := Option.map_eq_some_iff.1 e1
            obtain ⟨m', q2, rfl⟩ := Option.map_eq_some_iff.1 e2
            have ha := hp a (by simp)
            have hb := hq b (by simp)
            have hxy : (if i % 2 = 1 then pairN a h else pairN h a) ≠ (if i % 2 = 1 then pairN b h' else pairN h' b) := by
              split
              · exact fun e => hne (pairN_inj ha hh hb hh' e).2
              · exact fun e => hne (pairN_inj hh ha hh' hb e).1
            obtain ⟨X, hX⟩ : ∃ X, X = (if i % 2 = 1 then pairN a h else pairN h a) := ⟨_, rfl⟩
            obtain ⟨Y, hY⟩ : ∃ Y, Y = (if i % 2 = 1 then pairN b h' else pairN h' b) := ⟨_, rfl⟩
            rw [← hX] at hxy q1 e3 ⊢
            rw [← hY] at hxy q2 e3 ⊢
            show ∃ x y, (if sumN X = sumN Y then some (X, Y) else alike l' m') = some (x, y) ∧ _
            by_cases h3 : sumN X = sumN Y
            · rw [if_pos h3]; exact ⟨X, Y, rfl, hxy, h3⟩
            · rw [if_neg h3]
              exact binds_law f _ _ (sumN X) (sumN Y) p q l' m' (sumN_lt _) (sumN_lt _) (fun x hx => hp x (by simp [hx])) (fun x hx => hq x (by simp [hx])) h3 q1 q2 e3
theorem binds_top {f n i : Nat} {s t : List Nat} {p q : List Nat} {l m : List (Option (List Nat))} (hp : ∀ x ∈ p, x < 65536) (hq : ∀ x ∈ q, x < 65536) (hne : s ≠ t)
    (e1 : textsL f n i (sumN s) p = some l) (e2 : textsL f n i (sumN t) q = some m) (e3 : lastSum (sumN s) l = lastSum (sumN t) m) : ∃ x y, alike (some s :: l) (some t :: m) = some (x, y) ∧ x ≠ y ∧ sumN x = sumN y := by
  show ∃ x y, (if sumN s = sumN t then some (s, t) else alike l m) = some (x, y) ∧ _
  by_cases h : sumN s = sumN t
  · rw [if_pos h]; exact ⟨s, t, rfl, hne, h⟩
  · rw [if_neg h]
    exact binds_law f n i _ _ p q l m (sumN_lt _) (sumN_lt _) hp hq h e1 e2 e3
theorem climb_lt : ∀ (f : Nat) (row : List Nat) (i : Nat) (acc : List Nat), (∀ x ∈ row, x < 65536) → (∀ x ∈ acc, x < 65536) → (climb f row i acc).1 < 65536 ∧ ∀ x ∈ (climb f row i acc).2, x < 65536
  | 0, row, i, acc, hr, ha => by
    refine ⟨?_, ha⟩
    show row.getD 0 0 < 65536
    cases row with
    | nil => simp
    | cons a t => exact hr a (by simp)
  | f + 1, row, i, acc, hr, ha => by
    unfold climb
    by_cases h1 : row.length ≤ 1
    · rw [if_pos h1]
      refine ⟨?_, ha⟩
      show row.getD 0 0 < 65536
      cases row with
      | nil => simp
      | cons a t => exact hr a (by simp)
    · rw [if_neg h1]
      refine climb_lt f (upL row) (i / 2) _ (upL_lt row hr) fun x hx => ?_
      by_cases h2 : (i ^^^ 1) < row.length
      · rw [if_pos h2] at hx
        rcases List.mem_append.1 hx with h3 | h3
        · exact ha x h3
        · rw [List.mem_singleton.1 h3, List.getD_eq_getElem?_getD, List.getElem?_eq_getElem h2]
          exact hr _ (List.getElem_mem h2)
      · rw [if_neg h2] at hx
        exact ha x hx
end Go.Proofs.Ytpikjahgnnejmaa
