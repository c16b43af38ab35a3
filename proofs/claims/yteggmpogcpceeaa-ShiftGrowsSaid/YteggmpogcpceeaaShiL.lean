/- Plain: what the laws of shift rules need. -/
import Derived.Test.YteggmpogcpceeaaShiW
import Derived.Test.YteggmpogcpceeaaShiR
namespace Go.Proofs.Yteggmpogcpceeaa
namespace Sh
set_option linter.unusedVariables false
set_option linter.unusedSimpArgs false
theorem disc_congr {C s s' : Nat → Bool} {m : Nat} (h : ∀ i, i ≤ m → s i = s' i) : disc C s m = disc C s' m := dot_congr _ fun i hi => by
  show (C i && s (m - i)) = (C i && s' (m - i))
  rw [h (m - i) (by omega)]
theorem Inv.congr {s s' C B : Nat → Bool} {n L k : Nat} (h : Inv s n C B L k) (hs : ∀ i, i < n → s i = s' i) : Inv s' n C B L k := by
  refine ⟨h.c0, h.deg, h.le, fun m h1 h2 => ?_, fun t' L' h1 h2 => h.least t' L' h1 (h2.congr (fun _ _ => rfl) fun i hi => (hs i hi).symm), ?_⟩
  · rw [← disc_congr fun i hi => hs i (by omega)]; exact h.gen m h1 h2
  · rcases h.old with h1 | ⟨n', M, a, b, c, d, e, f, g⟩
    · exact .inl h1
    · refine .inr ⟨n', M, a, b, c, d, e, fun m h1 h2 => ?_, ?_⟩
      · rw [← disc_congr fun i hi => hs i (by omega)]; exact f m h1 h2
      · rw [← disc_congr fun i hi => hs i (by omega)]; exact g
/-- one bit that is set has a rule of one tap -/
theorem one_len {C B : Nat → Bool} {L k : Nat} (h : Inv (fun i => [true].getD i false) 1 C B L k) : L = 1 := by
  have h1 := h.le
  by_cases c : L = 0
  · subst c
    have := h.mk' 0 (Nat.le_refl 0) (by omega)
    simp [nxt, dot] at this
  · omega
end Sh
theorem bits_list (T L : Nat) : ((List.range L).map fun i => Nat.testBit T i).length = L := by simp
theorem bits_getD (T L : Nat) {i : Nat} (h : i < L) : ((List.range L).map fun i => Nat.testBit T i).getD i false = Nat.testBit T i := Sh.map_getD _ h
end Go.Proofs.Yteggmpogcpceeaa
