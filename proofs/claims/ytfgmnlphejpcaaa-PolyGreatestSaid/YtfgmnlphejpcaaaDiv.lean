/- The contracts of poly.Div, lockwrightkeep.divides. -/
import Derived.Test.YtfgmnlphejpcaaaDivM
namespace Go.Proofs.Ytfgmnlphejpcaaa
open Go.RowKit
set_option linter.unusedVariables false
set_option linter.unusedSimpArgs false
set_option maxRecDepth 20000 in
set_option maxHeartbeats 1600000 in
theorem poly_Div (p : Int) (a b : Option Addr) (c d : Nat) (xs ys : List Int) (w : World) (g1 : Good p xs) (g2 : Good p ys) (h1 : RowL w a c xs) (h2 : RowL w b d ys) (h0 : 0 < ys.length) :
    Calls Try.prog 22 #[.int .i64 p, .slice a xs.length c, .slice b ys.length d] w fun e w' =>
      (∃ (aq ar : Option Addr) (cq cr : Nat) (qs rs : List Int), e = .returned (.tuple #[.slice aq qs.length cq, .slice ar rs.length cr, .int .i64 0]) ∧ RowL w' aq cq qs ∧ RowL w' ar cr rs ∧ DivInv p xs ys qs rs ∧ rs.length < ys.length) ∧ Below w.heap.size w w' := by
  have hB := poly_both p a b c d xs ys w h1 h2 (by have := g1.len; unfold maxLen; omega) (by have := g2.len; unfold maxLen; omega)
  rw [bothE_zero.2 ⟨g1, g2⟩] at hB
  have HB := Lib.hid hB
  have HO := Lib.hid fun w' (h1 : RowL w' a c xs) (h2 : RowL w' b d ys) => poly_Over p a b c d xs ys w' g1.prime.1 g1.prime.2.1 g1.prime.2.2 h1 h2 (by have := g1.len; omega) (by have := g2.len; omega) g1.rng g2.rng g1.last g2.last h0
  have HR1 := Lib.hid h1
  have HR2 := Lib.hid h2
  obtain ⟨La, hLa⟩ : ∃ L, xs.length = L := ⟨_, rfl⟩
  obtain ⟨m, hm⟩ : ∃ m, ys.length = m + 1 := ⟨ys.length - 1, by omega⟩
  rw [hLa, hm] at HB HO
  rw [hLa, hm]
  clear hB hLa hm h1 h2 g1 g2 h0
  go_enter Try.func22, Try.ntmps22
  go_wp2_with fail
  refine HB.out.mono ?_
  rintro e w1 ⟨rfl, hb1⟩
  go_wp2_with fail
  refine (HO.out _ (HR1.out.below hb1 (Nat.le_refl _)) (HR2.out.below hb1 (Nat.le_refl _))).mono ?_
  rintro e w2 ⟨⟨aq, ar, cq, cr, qs, rs, rfl, hq, hr, hd, hlt⟩, hb2⟩
  have HD := Lib.hid hd
  have HLT := Lib.hid hlt
  clear hd hlt
  go_wp2
  go_ret3
  exact ⟨⟨aq, ar, cq, cr, qs, rs, rfl, hq, hr, HD.out, HLT.out⟩, below_two hb1 hb2⟩
end Go.Proofs.Ytfgmnlphejpcaaa
