/- A slice of prime powers: its cells. -/
import Derived.Test.YtceocooppjfjjaaPrF
namespace Go.Proofs.Ytceocooppjfjjaa
open Go.RowKit
set_option linter.unusedVariables false
theorem flatP_get : ∀ (l : List (Nat × Nat)) (i : Nat) (x : Nat × Nat), l[i]? = some x → (flatP l)[i * 2]? = some (.int .i64 x.1) ∧ (flatP l)[i * 2 + 1]? = some (.int .i64 x.2)
  | [], i, x, h => by simp at h
  | y :: t, 0, x, h => by simp at h; subst h; exact ⟨rfl, rfl⟩
  | y :: t, i + 1, x, h => by
    have := flatP_get t i x (by simpa using h)
    rw [show (i + 1) * 2 = i * 2 + 1 + 1 by omega]
    exact this
/-- the slice's own shape: nil, or a block that holds it -/
theorem rowP_shape {W : World} {base : Nat} {v : Value} {l : List (Nat × Nat)} {e : TypeId} (h : W.ownsRow base e 2 v l.length (flatP l)) :
    (v = .slice none 0 0 ∧ l = []) ∨ ∃ g cap, v = .slice (some ⟨g, 0, none⟩) l.length cap ∧ base ≤ g ∧ g < W.heap.size ∧ l.length ≤ cap ∧
      ∀ i x, l[i]? = some x → W.cell? ⟨g, i * 2, none⟩ = some (.int .i64 x.1) ∧ W.cell? ⟨g, i * 2 + 1, none⟩ = some (.int .i64 x.2) := by
  rcases h.2 with ⟨h1, h2⟩ | ⟨g, cap, cur, h1, h2, h3, h4, h5, h6, h7⟩
  · exact .inl ⟨h1, List.length_eq_zero_iff.1 h2⟩
  · refine .inr ⟨g, cap, h1, h2, (Array.getElem?_eq_some_iff.1 h3).1, h4, fun i x hx => ?_⟩
    obtain ⟨e1, e2⟩ := flatP_get l i x hx
    have hi : i < l.length := (List.getElem?_eq_some_iff.1 hx).1
    rw [← h7, List.getElem?_take] at e1 e2
    rw [if_pos (by omega)] at e1 e2
    refine ⟨?_, ?_⟩
    · simp only [World.cell?]; rw [h3]; simpa using e1
    · simp only [World.cell?]; rw [h3]; simpa using e2
end Go.Proofs.Ytceocooppjfjjaa
