/- Plain: the mixes of a text; where two texts with one sum clash. -/
import Derived.Test.YtpikjahgnnejmaaPad
namespace Go.Proofs.Ytpikjahgnnejmaa
set_option linter.unusedVariables false
/-- the state behind so many bytes -/
def stateN (l : List Nat) (i : Nat) : Nat := (l.take i).foldl M.stepN 0
theorem stateN_succ {l : List Nat} {i x : Nat} (h : l[i]? = some x) : stateN l (i + 1) = M.stepN (stateN l i) x := by
  unfold stateN
  rw [List.take_add_one, h]; simp
theorem stateN_all (l : List Nat) : stateN l l.length = l.foldl M.stepN 0 := by unfold stateN; rw [List.take_length]
theorem stateN_lt (l : List Nat) (i : Nat) : stateN l i < 65536 := fold_lt _ _ (by omega)
theorem litN_get (m : Nat) : ∀ n j, j < m → (litN n m)[j]? = some (n / 256 ^ j % 256) := by
  induction m with
  | zero => intro n j h; omega
  | succ m ih =>
    intro n j h
    cases j with
    | zero => simp [litN]
    | succ j =>
      simp only [litN, List.getElem?_cons_succ]
      rw [ih _ _ (by omega), Nat.div_div_eq_div_mul, Nat.pow_succ, Nat.mul_comm 256]
theorem pad_last (xs : List Nat) (s : Nat) (h : s < 4) : (padN xs)[xs.length + 3 - s]? = some (xs.length / 256 ^ (3 - s) % 256) := by
  unfold padN
  rw [List.getElem?_append_right (by omega), show xs.length + 3 - s - xs.length = 3 - s by omega, litN_get 4 _ _ (by omega)]
/-- as far as so many places from behind two texts are the same, and the states ahead of them -/
structure Agree (xs ys : List Nat) (t : Nat) : Prop where
  tx : t ≤ xs.length + 4
  ty : t ≤ ys.length + 4
  st : stateN (padN xs) (xs.length + 4 - t) = stateN (padN ys) (ys.length + 4 - t)
  by' : ∀ s, s < t → (padN xs)[xs.length + 3 - s]? = (padN ys)[ys.length + 3 - s]?
theorem Agree.init {xs ys : List Nat} (h : sumN xs = sumN ys) : Agree xs ys 0 :=
  ⟨by omega, by omega, by
    unfold sumN at h
    rw [← stateN_all, ← stateN_all, padN_len, padN_len] at h
    exact h, fun s h => absurd h (Nat.not_lt_zero _)⟩
theorem Agree.more {xs ys : List Nat} {t : Nat} (h : Agree xs ys t) (hne : xs ≠ ys) (l1 : xs.length ≤ 4096) (l2 : ys.length ≤ 4096) : t < xs.length + 4 ∧ t < ys.length + 4 := by
  by_cases hc : t < xs.length + 4 ∧ t < ys.length + 4
  · exact hc
  · exfalso
    have t4 : 4 ≤ t := by
      have := h.tx; have := h.ty; omega
    have e0 := h.by' 3 (by omega)
    have e1 := h.by' 2 (by omega)
    rw [pad_last xs 3 (by omega), pad_last ys 3 (by omega)] at e0
    rw [pad_last xs 2 (by omega), pad_last ys 2 (by omega)] at e1
    simp at e0 e1
    have hl : xs.length = ys.length := by omega
    have ht : t = xs.length + 4 := by have := h.tx; have := h.ty; omega
    apply hne
    have hp : padN xs = padN ys := by
      apply List.ext_getElem?
      intro j
      by_cases hj : j < xs.length + 4
      · have := h.by' (xs.length + 3 - j) (by omega)
        rw [show xs.length + 3 - (xs.length + 3 - j) = j by omega, show ys.length + 3 - (xs.length + 3 - j) = j by omega] at this
        exact this
      · rw [List.getElem?_eq_none (by rw [padN_len]; omega), List.getElem?_eq_none (by rw [padN_len]; omega)]
    unfold padN at hp
    rw [← hl] at hp
    exact List.append_cancel_right hp
theorem pad_some (xs : List Nat) (i : Nat) (h : i < xs.length + 4) : ∃ x, (padN xs)[i]? = some x := ⟨_, List.getElem?_eq_getElem (by rw [padN_len]; exact h)⟩
theorem Agree.next {xs ys : List Nat} {t x y : Nat} (h : Agree xs ys t) (h1 : t < xs.length + 4) (h2 : t < ys.length + 4) (hx : (padN xs)[xs.length + 3 - t]? = some x) (hy : (padN ys)[ys.length + 3 - t]? = some y)
    (hs : stateN (padN xs) (xs.length + 3 - t) = stateN (padN ys) (ys.length + 3 - t)) (hb : x = y) : Agree xs ys (t + 1) :=
  ⟨by omega, by omega, by
    rw [show xs.length + 4 - (t + 1) = xs.length + 3 - t by omega, show ys.length + 4 - (t + 1) = ys.length + 3 - t by omega]; exact hs, fun s hs' => by
    by_cases e : s = t
    · subst e; rw [hx, hy, hb]
    · exact h.by' s (by omega)⟩
theorem Agree.step {xs ys : List Nat} {t x y : Nat} (h : Agree xs ys t) (h1 : t < xs.length + 4) (h2 : t < ys.length + 4) (hx : (padN xs)[xs.length + 3 - t]? = some x) (hy : (padN ys)[ys.length + 3 - t]? = some y) :
    M.stepN (stateN (padN xs) (xs.length + 3 - t)) x = M.stepN (stateN (padN ys) (ys.length + 3 - t)) y := by
  rw [← stateN_succ hx, ← stateN_succ hy]
  have := h.st
  rwa [show xs.length + 4 - t = xs.length + 3 - t + 1 by omega, show ys.length + 4 - t = ys.length + 3 - t + 1 by omega] at this
end Go.Proofs.Ytpikjahgnnejmaa
