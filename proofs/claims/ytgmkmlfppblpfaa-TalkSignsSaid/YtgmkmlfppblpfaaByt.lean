/- The contract of the reference's Bytes. -/
import Derived.Test.YtgmkmlfppblpfaaHOne
namespace Go.Proofs.Ytgmkmlfppblpfaa
open Go.RowKit
set_option linter.unusedVariables false
set_option linter.unusedSimpArgs false
theorem RowB.shape {W : World} {a : Option Addr} {c : Nat} {xs : List Nat} (h : RowB W a c xs) (hne : 0 < xs.length) :
    ∃ b o, a = some ⟨b, o, none⟩ ∧ ∀ (j : Nat) (x : Nat), xs[j]? = some x → W.cell? ⟨b, o + j, none⟩ = some (.int .u8 (x : Int)) := by
  rcases a with _ | ⟨b, o, s⟩
  · have := (h.1 rfl).1; subst this; simp at hne
  · have k0 := h.2 _ rfl 0 (.int .u8 ((xs[0] : Nat) : Int)) (by simp [byV, hne])
    have hs : s = none := by
      cases s with
      | none => rfl
      | some y =>
        simp [World.cell?, Addr.add] at k0
        split at k0 <;> simp at k0
    subst hs
    refine ⟨b, o, rfl, fun j x hx => ?_⟩
    have k := h.2 _ rfl j (.int .u8 (x : Int)) (by simp [byV, hx])
    by_cases hj : j = 0
    · subst hj; simpa [Addr.add] using k
    · simpa [Addr.add, hj] using k
end Go.Proofs.Ytgmkmlfppblpfaa
