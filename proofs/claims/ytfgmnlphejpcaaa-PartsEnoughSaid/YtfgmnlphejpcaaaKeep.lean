/- The contracts as lockwrightkeep uses them: good polynomials. -/
import Derived.Test.YtfgmnlphejpcaaaTim
namespace Go.Proofs.Ytfgmnlphejpcaaa
open Go.RowKit
set_option linter.unusedVariables false
set_option linter.unusedSimpArgs false
theorem mul_good {p : Int} {a b : Option Addr} {c d : Nat} {xs ys : List Int} {w : World} {La Lb N : Nat} (g1 : Good p xs) (g2 : Good p ys) (e1 : xs.length = La) (e2 : ys.length = Lb) (e3 : (timesL p xs ys).length = N) (h1 : RowL w a c xs) (h2 : RowL w b d ys) :
    Calls Try.prog 16 #[.int .i64 p, .slice a La c, .slice b Lb d] w fun e w' => (∃ a' c', e = .returned (.tuple #[.slice a' N c', .int .i64 0]) ∧ RowL w' a' c' (timesL p xs ys)) ∧ Below w.heap.size w w' := by
  have h0 := bothE_zero.2 ⟨g1, g2⟩
  have h := poly_Mul p a b c d xs ys w h1 h2 (by have := g1.len; unfold maxLen; omega) (by have := g2.len; unfold maxLen; omega)
  rw [show mulL p xs ys = timesL p xs ys by unfold mulL; rw [if_pos h0], h0, e1, e2, e3] at h
  exact h
theorem add_good {p : Int} {a b : Option Addr} {c d : Nat} {xs ys : List Int} {w : World} {La Lb N : Nat} (g1 : Good p xs) (g2 : Good p ys) (e1 : xs.length = La) (e2 : ys.length = Lb) (e3 : (plusL p xs ys 1 0).length = N) (h1 : RowL w a c xs) (h2 : RowL w b d ys) :
    Calls Try.prog 17 #[.int .i64 p, .slice a La c, .slice b Lb d] w fun e w' => (∃ a' c', e = .returned (.tuple #[.slice a' N c', .int .i64 0]) ∧ RowL w' a' c' (plusL p xs ys 1 0)) ∧ Below w.heap.size w w' := by
  have h0 := bothE_zero.2 ⟨g1, g2⟩
  have h := poly_Add p a b c d xs ys w h1 h2 (by have := g1.len; unfold maxLen; omega) (by have := g2.len; unfold maxLen; omega)
  rw [show addL p xs ys = plusL p xs ys 1 0 by unfold addL; rw [if_pos h0], h0, e1, e2, e3] at h
  exact h
theorem longs_same {a b : Option Addr} {c d : Nat} {xs ys : List Int} {w : World} {La : Nat} (e : xs = ys) (e1 : xs.length = La) (hl : La ≤ 1000) (h1 : RowL w a c xs) (h2 : RowL w b d ys) :
    Calls Try.prog 18 #[.slice a La c, .slice b La d] w fun e w' => e = .returned (.bool true) ∧ Below w.heap.size w w' := by
  subst e
  have h := ref_Longs a b c d xs xs w h1 h2 (by omega) (by omega)
  rw [e1] at h
  simpa using h
theorem sound_two {p : Int} {g : Nat} {a b : Option Addr} {c d : Nat} {xs ys : List Int} {w : World} {La Lb : Nat} (e1 : xs.length = La) (e2 : ys.length = Lb) (l1 : La ≤ maxLen) (l2 : Lb ≤ maxLen) (h1 : RowL w a c xs) (h2 : RowL w b d ys)
    (k0 : w.cell? ⟨g, 0, none⟩ = some (.slice a La c)) (k1 : w.cell? ⟨g, 1, none⟩ = some (.slice b Lb d)) {t : Bool} (ht : t = decide (bothE p xs ys = 0)) :
    Calls Try.prog 13 #[.int .i64 p, .slice (some ⟨g, 0, none⟩) 2 2] w fun e w' => e = .returned (.bool t) ∧ w = w' := by
  have h := keep_sound p (fun j => if j = 0 then (a, c, xs) else (b, d, ys)) g 2 2 w (by omega) (by omega) (fun j hj => by
    by_cases e : j = 0
    · subst e; simp only [if_pos]; exact ⟨by rw [e1]; exact k0, h1, by rw [e1]; exact l1⟩
    · obtain rfl : j = 1 := by omega
      simp only [if_neg e]; exact ⟨by rw [e2]; exact k1, h2, by rw [e2]; exact l2⟩)
  rw [show allB p (fun j => if j = 0 then (a, c, xs) else (b, d, ys)) 2 = t by
    rw [ht]; unfold allB bothE; simp [List.range, List.range.loop]
    by_cases e : polyE p xs = 0 <;> simp [e]] at h
  exact h
theorem sound_one {p : Int} {g : Nat} {a : Option Addr} {c : Nat} {xs : List Int} {w : World} {La : Nat} (e1 : xs.length = La) (l1 : La ≤ maxLen) (h1 : RowL w a c xs)
    (k0 : w.cell? ⟨g, 0, none⟩ = some (.slice a La c)) {t : Bool} (ht : t = decide (polyE p xs = 0)) :
    Calls Try.prog 13 #[.int .i64 p, .slice (some ⟨g, 0, none⟩) 1 1] w fun e w' => e = .returned (.bool t) ∧ w = w' := by
  have h := keep_sound p (fun j => (a, c, xs)) g 1 1 w (by omega) (by omega) (fun j hj => by
    obtain rfl : j = 0 := by omega
    exact ⟨by rw [e1]; exact k0, h1, by rw [e1]; exact l1⟩)
  rw [show allB p (fun j => (a, c, xs)) 1 = t by
    rw [ht]; unfold allB; simp [List.range, List.range.loop]] at h
  exact h
theorem alloc_below (w : World) (o : Obj) : Below w.heap.size w (w.alloc o) := (Below.refl _ _).alloc (Nat.le_refl _) _
/-- the slice of slices that the call makes -/
theorem sound_two' {p : Int} {a b : Option Addr} {c d : Nat} {xs ys : List Int} {w : World} {La Lb : Nat} (t : Bool) (e1 : xs.length = La) (e2 : ys.length = Lb) (l1 : La ≤ 9223372036854775807) (l2 : Lb ≤ 9223372036854775807) (h1 : RowL w a c xs) (h2 : RowL w b d ys)
    (ht : t = decide (bothE p xs ys = 0)) :
    Calls Try.prog 13 #[.int .i64 p, .slice (some ⟨w.heap.size, 0, none⟩) 2 2] (w.alloc (.cells #[.slice a La c, .slice b Lb d] 22)) fun e w' => e = .returned (.bool t) ∧ Below w.heap.size w w' :=
  (sound_two e1 e2 l1 l2 (h1.below (alloc_below w _) (Nat.le_refl _)) (h2.below (alloc_below w _) (Nat.le_refl _)) (by simp [go_sem]) (by simp [go_sem]) ht).mono fun e w' h => ⟨h.1, h.2 ▸ alloc_below w _⟩
theorem sound_one' {p : Int} {a : Option Addr} {c : Nat} {xs : List Int} {w : World} {La : Nat} (t : Bool) (e1 : xs.length = La) (l1 : La ≤ 9223372036854775807) (h1 : RowL w a c xs) (ht : t = decide (polyE p xs = 0)) :
    Calls Try.prog 13 #[.int .i64 p, .slice (some ⟨w.heap.size, 0, none⟩) 1 1] (w.alloc (.cells #[.slice a La c] 22)) fun e w' => e = .returned (.bool t) ∧ Below w.heap.size w w' :=
  (sound_one e1 l1 (h1.below (alloc_below w _) (Nat.le_refl _)) (by simp [go_sem]) ht).mono fun e w' h => ⟨h.1, h.2 ▸ alloc_below w _⟩
theorem good_times {p : Int} {xs ys : List Int} (g1 : Good p xs) (h : (timesL p xs ys).length ≤ 13) : Good p (timesL p xs ys) :=
  ⟨g1.pr, h, timesL_rng (by have := g1.prime; omega), timesL_last _ _ _⟩
theorem good_plus {p : Int} {xs ys : List Int} (g1 : Good p xs) (g2 : Good p ys) : Good p (plusL p xs ys 1 0) :=
  ⟨g1.pr, by have := plusL_len p xs ys 1 0; have := g1.len; have := g2.len; omega, plusL_rng (by have := g1.prime; omega) g1.rng, plusL_last _ _ _ _ _⟩
end Go.Proofs.Ytfgmnlphejpcaaa
