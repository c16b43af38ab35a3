/- share.Explain where it refuses. -/
import Derived.Test.YtfgmnlphejpcaaaJoin
namespace Go.Proofs.Ytfgmnlphejpcaaa
open Go.RowKit
set_option linter.unusedVariables false
set_option linter.unusedSimpArgs false
set_option maxRecDepth 20000 in
set_option maxHeartbeats 1600000 in
theorem share_Explain_wrong (p s : Int) (a : Option Addr) (c : Nat) (pts : List (Int × Int)) (w : World) {L : Nat} (h : RowP w a c pts) (eL : pts.length = L) (hl : L ≤ 9223372036854775807) (hw : wrongE p pts ≠ 0) :
    Calls Try.prog 30 #[.int .i64 p, .slice a L c, .int .i64 s] w fun e w' => (∃ t, t ≠ 0 ∧ e = .returned (.tuple #[.slice none 0 0, .int .i64 t])) ∧ Below w.heap.size w w' := by
  have HJ := Lib.hid (share_Join_bad p a c pts w h eL hl hw)
  clear h eL hw
  go_enter Try.func30, Try.ntmps30
  go_wp2_with fail
  refine HJ.out.mono ?_
  rintro e w1 ⟨⟨t, ht, rfl⟩, hb1⟩
  have H0 := Lib.hid ht
  have q1 : (t == 0) = false := by simpa using ht
  have q2 : (t != 0) = true := by simpa using ht
  clear ht
  go_wp2
  go_ret2
  exact ⟨⟨t, H0.out, rfl⟩, hb1⟩
set_option maxRecDepth 20000 in
set_option maxHeartbeats 1600000 in
theorem share_Explain_bad (p s : Int) (a : Option Addr) (c : Nat) (pts : List (Int × Int)) (w : World) {L : Nat} (h : RowP w a c pts) (eL : pts.length = L) (hw : wrongE p pts = 0) (hz : ∀ v ∈ pts, v.1 ≠ 0) (hs : s < 0 ∨ p ≤ s ∨ 12 < L) :
    Calls Try.prog 30 #[.int .i64 p, .slice a L c, .int .i64 s] w fun e w' => (∃ t, t ≠ 0 ∧ e = .returned (.tuple #[.slice none 0 0, .int .i64 t])) ∧ Below w.heap.size w w' := by
  have HJ := Lib.hid (share_Join p a c pts w h eL hw hz)
  have hp := primeE_zero (wrong_good hw).1
  have hl := (wrong_good hw).2.1
  rw [eL] at hl
  have p1 := hp.1
  have p2 := hp.2.1
  clear h eL hw hz hp
  have key : s < 0 ∨ (¬ s < 0 ∧ p ≤ s) ∨ (¬ s < 0 ∧ s < p ∧ decide (12 < (L : Int)) = true) := by
    by_cases h1 : s < 0
    · exact .inl h1
    · by_cases h2 : p ≤ s
      · exact .inr (.inl ⟨h1, h2⟩)
      · exact .inr (.inr ⟨h1, by omega, decide_eq_true (by omega)⟩)
  clear hs
  rcases key with k1 | ⟨k1, k2⟩ | ⟨k1, k2, k3⟩
  all_goals
    go_enter Try.func30, Try.ntmps30
    go_wp2_with fail
    refine HJ.out.mono ?_
    rintro e w1 ⟨⟨A, rfl, _⟩, hb1⟩
    go_wp2
    go_ret2
    first
      | exact ⟨⟨2, by decide, rfl⟩, hb1⟩
      | exact ⟨⟨1, by decide, rfl⟩, hb1⟩
end Go.Proofs.Ytfgmnlphejpcaaa
