/- The contracts as lockwrightkeep uses them: good polynomials. -/
import Derived.Test.YtkkefbjmdbjbhaaTim
namespace Go.Proofs.Ytkkefbjmdbjbhaa
open Go.RowKit
set_option linter.unusedVariables false
set_option linter.unusedSimpArgs false
theorem alloc_below (w : World) (o : Obj) : Below w.heap.size w (w.alloc o) := (Below.refl _ _).alloc (Nat.le_refl _) _
theorem good_times {p : Int} {xs ys : List Int} (g1 : Good p xs) (h : (timesL p xs ys).length ≤ 13) : Good p (timesL p xs ys) :=
  ⟨g1.pr, h, timesL_rng (by have := g1.prime; omega), timesL_last _ _ _⟩
theorem good_plus {p : Int} {xs ys : List Int} (g1 : Good p xs) (g2 : Good p ys) : Good p (plusL p xs ys 1 0) :=
  ⟨g1.pr, by have := plusL_len p xs ys 1 0; have := g1.len; have := g2.len; omega, plusL_rng (by have := g1.prime; omega) g1.rng, plusL_last _ _ _ _ _⟩
end Go.Proofs.Ytkkefbjmdbjbhaa
