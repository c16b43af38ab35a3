/- Rows of the call's own: a cell read, a cell written. -/
import Derived.Test.YtkodhpjmmiapaaaClo
namespace Go.Proofs.Ytkodhpjmmiapaaa
open Go.RowKit
set_option linter.unusedVariables false
set_option linter.unusedSimpArgs false
theorem own_heap {W : World} {base g k cap : Nat} {e : TypeId} {xs : List Value} (h : W.ownsRow base e 1 (.slice (some ⟨g, 0, none⟩) k cap) k xs) :
    ∃ cur, base ≤ g ∧ W.heap[g]? = some (.cells cur e (0, 0)) ∧ k ≤ cap ∧ cap ≤ maxLen ∧ cur.size = cap ∧ cur.toList.take k = xs := by
  rcases h.2 with ⟨h0, _⟩ | ⟨g', cap', cur, h1, h2, h3, h4, h5, h6, h7⟩
  · cases h0
  · cases h1
    exact ⟨cur, h2, h3, h4, h5, by rw [h6, Nat.mul_one], by rw [← h7, Nat.mul_one]⟩
theorem own_len {W : World} {base k : Nat} {v : Value} {e : TypeId} {xs : List Value} (h : W.ownsRow base e 1 v k xs) : xs.length = k := by rw [h.1, Nat.mul_one]
theorem own_cell {W : World} {base g k cap : Nat} {e : TypeId} {xs : List Value} (h : W.ownsRow base e 1 (.slice (some ⟨g, 0, none⟩) k cap) k xs) {i : Nat} {u : Value} (hu : xs[i]? = some u) : W.cell? ⟨g, i, none⟩ = some u := by
  obtain ⟨cur, _, h3, h4, _, h6, h7⟩ := own_heap h
  have hi : i < xs.length := (List.getElem?_eq_some_iff.1 hu).1
  have hl := own_len h
  rw [← h7, List.getElem?_take, if_pos (by omega)] at hu
  simp only [World.cell?]; rw [h3]; simpa using hu
theorem own_frozen {W : World} {base g k cap : Nat} {e : TypeId} {xs : List Value} (h : W.ownsRow base e 1 (.slice (some ⟨g, 0, none⟩) k cap) k xs) (i : Nat) : W.frozen? ⟨g, i, none⟩ = false := by
  obtain ⟨cur, _, h3, _⟩ := own_heap h
  simp [World.frozen?, h3]
theorem own_set {W : World} {base g k cap : Nat} {e : TypeId} {xs : List Value} (h : W.ownsRow base e 1 (.slice (some ⟨g, 0, none⟩) k cap) k xs) {i : Nat} (hi : i < k) (u : Value) :
    (W.setCell ⟨g, i, none⟩ u).ownsRow base e 1 (.slice (some ⟨g, 0, none⟩) k cap) k (xs.set i u) := by
  obtain ⟨cur, h2, h3, h4, h5, h6, h7⟩ := own_heap h
  refine ⟨by rw [List.length_set]; exact h.1, .inr ⟨g, cap, cur.setIfInBounds i u, rfl, h2, heap_setCell_same W g i cur e u h3, h4, h5, by simp [h6], ?_⟩⟩
  rw [Nat.mul_one, ← h7, Array.toList_setIfInBounds, List.take_set]
theorem own_shape {W : World} {base k : Nat} {v : Value} {e : TypeId} {xs : List Value} (h : W.ownsRow base e 1 v k xs) (hk : 0 < k) : ∃ g cap, v = .slice (some ⟨g, 0, none⟩) k cap ∧ base ≤ g ∧ g < W.heap.size ∧ k ≤ cap ∧ cap ≤ maxLen := by
  rcases h.2 with ⟨_, h0⟩ | ⟨g, cap, cur, h1, h2, h3, h4, h5, _⟩
  · omega
  · exact ⟨g, cap, h1, h2, (Array.getElem?_eq_some_iff.1 h3).1, h4, h5⟩
end Go.Proofs.Ytkodhpjmmiapaaa
