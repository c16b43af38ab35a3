/- hash.Sum, the reference's Bytes; plain: one byte changed. -/
import Derived.Test.YtkodhpjmmiapaaaPad
namespace Go.Proofs.Ytkodhpjmmiapaaa
open Go.RowKit
set_option linter.unusedVariables false
set_option linter.unusedSimpArgs false
theorem fold_inj (l : List Nat) : ∀ h h', h < 65536 → h' < 65536 → (∀ x ∈ l, x < 65536) → (l.foldl M.stepN h = l.foldl M.stepN h' ↔ h = h') := by
  induction l with
  | nil => intro h h' _ _ _; exact Iff.rfl
  | cons x t ih =>
    intro h h' h1 h2 hx
    have hx1 := hx x (by simp)
    simp only [List.foldl_cons]
    rw [ih _ _ (M.stepN_lt _ _) (M.stepN_lt _ _) (fun y hy => hx y (by simp [hy])), M.stepN_right h1 hx1 h2]
theorem sum_set {xs : List Nat} {i x : Nat} (hi : i < xs.length) (hx : x < 256) (hxs : ∀ y ∈ xs, y < 256) : sumN xs = sumN (xs.set i x) ↔ xs = xs.set i x := by
  refine ⟨fun h => ?_, fun h => by rw [← h]⟩
  have e1 : xs = xs.take i ++ xs[i] :: xs.drop (i + 1) := by rw [List.getElem_cons_drop]; exact (List.take_append_drop i xs).symm
  have e2 : xs.set i x = xs.take i ++ x :: xs.drop (i + 1) := List.set_eq_take_append_cons_drop.trans (by rw [if_pos hi])
  have hl : (xs.set i x).length = xs.length := by simp
  unfold sumN padN at h
  rw [hl, e2] at h
  conv at h => lhs; rw [e1]
  simp only [List.append_assoc, List.foldl_append, List.cons_append, List.foldl_cons] at h
  rw [← List.foldl_append, ← List.foldl_append] at h
  have hp : ∀ y ∈ xs.drop (i + 1) ++ litN xs.length 4, y < 65536 := fun y hy => by
    rcases List.mem_append.1 hy with hy | hy
    · have := hxs y (List.mem_of_mem_drop hy); omega
    · have := litN_lt _ _ y hy; omega
  have e1l : (xs.take i ++ xs[i] :: xs.drop (i + 1)).length = xs.length := by rw [← e1]
  try rw [e1l] at h
  rw [fold_inj _ _ _ (M.stepN_lt _ _) (M.stepN_lt _ _) hp, M.stepN_left (fold_lt _ _ (by omega)) (by have := hxs xs[i] (List.getElem_mem hi); omega) (by omega)] at h
  rw [e2]
  conv => lhs; rw [e1]
  rw [h]
end Go.Proofs.Ytkodhpjmmiapaaa
