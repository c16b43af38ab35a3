/- The contracts of log.Log. -/
import Derived.Test.YtceocooppjfjjaaLog
import Derived.Test.YtceocooppjfjjaaPow
import Derived.Maps.OwnSet
import Derived.Maps.OwnOps
import Derived.WalkSpells
namespace Go.Proofs.Ytceocooppjfjjaa
open Go.RowKit Go.Maps Go.WideMaps
set_option linter.unusedVariables false
set_option linter.unusedSimpArgs false
theorem law_log : Keyed Try.prog 2 := int_keyed (P := Try.prog) (q := .i64) (by kernel_rfl)
theorem zero_log (w : World) : (zeroValue 2).run Try.prog w = .ok (.int .i64 0) w := by kernel_rfl
/-- what log.Log answers for a prime -/
def LogPost (g a p : Int) (w : World) (e : Ending) (w' : World) : Prop :=
  ((∃ E : Nat, LeastE g a p E ∧ e = .returned (.tuple #[.int .i64 E, .int .i64 0])) ∨ ((∀ e' : Nat, (e' : Int) ≤ p → g ^ e' % p ≠ a % p) ∧ e = .returned (.tuple #[.int .i64 0, .int .i64 5]))) ∧ Below w.heap.size w w'
theorem pair_new (w : World) (x y : Value) (t : TypeId) : (w.alloc (.cells #[x, y] t)).cell? ⟨w.heap.size, 0, none⟩ = some x ∧ (w.alloc (.cells #[x, y] t)).cell? ⟨w.heap.size, 1, none⟩ = some y := by
  have hn := World.alloc_heap_new w (.cells #[x, y] t)
  refine ⟨?_, ?_⟩ <;> simp only [World.cell?] <;> rw [hn] <;> rfl
theorem log_Log_bad (g a p : Int) (w : World) (h : logE p g a ≠ 0) :
    Calls Try.prog 18 #[.int .i64 g, .int .i64 a, .int .i64 p] w fun e w' => e = .returned (.tuple #[.int .i64 0, .int .i64 (logE p g a)]) ∧ Below w.heap.size w w' := by
  have HC := Lib.hid fun b w => log_wrong p g a b w
  obtain ⟨T, hT⟩ : ∃ T, logE p g a = T := ⟨_, rfl⟩
  rw [hT] at HC h ⊢
  have t1 : (T != 0) = true := by simpa using h
  clear h hT
  go_enter Try.func18, Try.ntmps18
  go_wp2_with fail
  refine (HC.out _ _ (pair_new w _ _ _).1 (pair_new w _ _ _).2).mono ?_
  rintro e w1 ⟨rfl, hb1⟩
  have hB := below_two ((Below.refl w.heap.size w).alloc (Nat.le_refl _) _) hb1
  go_wp2
  go_ret2
  exact ⟨rfl, hB⟩
theorem log_Log_zero (g a p : Int) (w : World) (h : logE p g a = 0) (hg : g % p = 0) :
    Calls Try.prog 18 #[.int .i64 g, .int .i64 a, .int .i64 p] w fun e w' => (∃ x t : Int, e = .returned (.tuple #[.int .i64 x, .int .i64 t])) ∧ Below w.heap.size w w' := by
  obtain ⟨f1, f2, p1, p2, pp⟩ := logE_zero h
  have p3 : 2 ≤ p := by have := (prB_true pp).1; omega
  have HC := Lib.hid fun b w => log_wrong p g a b w
  rw [h] at HC
  have HG := Lib.hid fun w => euclid_Mod g p w p1 (by omega)
  have HA := Lib.hid fun w => euclid_Mod a p w p1 (by omega)
  rw [hg] at HG
  obtain ⟨A, hA⟩ : ∃ A, a % p = A := ⟨_, rfl⟩
  have a1 : 0 ≤ A := by rw [← hA]; exact Int.emod_nonneg _ (by omega)
  have a2 : A < p := by rw [← hA]; exact Int.emod_lt_of_pos _ (by omega)
  rw [hA] at HA
  have o1 : (1 : Int).tmod p = 1 := by rw [Int.tmod_eq_emod_of_nonneg (by omega)]; exact Int.emod_eq_of_lt (by omega) (by omega)
  have o2 : (1 : Int) % p = 1 := Int.emod_eq_of_lt (by omega) (by omega)
  clear h hg hA f1 f2 pp
  by_cases c1 : A = 1
  · subst c1
    go_enter Try.func18, Try.ntmps18
    go_wp2_with fail
    refine (HC.out _ _ (pair_new w _ _ _).1 (pair_new w _ _ _).2).mono ?_
    rintro e w1 ⟨rfl, hb1⟩
    have hB := below_two ((Below.refl w.heap.size w).alloc (Nat.le_refl _) _) hb1
    go_wp2_with fail
    refine (HG.out _).mono ?_
    rintro e w2 ⟨rfl, rfl⟩
    go_wp2_with fail
    refine (HA.out _).mono ?_
    rintro e w2 ⟨rfl, rfl⟩
    go_wp2
    go_ret2
    exact ⟨⟨_, _, rfl⟩, hB⟩
  · by_cases c0 : A = 0
    · subst c0
      go_enter Try.func18, Try.ntmps18
      go_wp2_with fail
      refine (HC.out _ _ (pair_new w _ _ _).1 (pair_new w _ _ _).2).mono ?_
      rintro e w1 ⟨rfl, hb1⟩
      have hB := below_two ((Below.refl w.heap.size w).alloc (Nat.le_refl _) _) hb1
      go_wp2_with fail
      refine (HG.out _).mono ?_
      rintro e w2 ⟨rfl, rfl⟩
      go_wp2_with fail
      refine (HA.out _).mono ?_
      rintro e w2 ⟨rfl, rfl⟩
      go_wp2
      go_ret2
      exact ⟨⟨_, _, rfl⟩, hB⟩
    · have t1 : (A == 1) = false := by simpa using c1
      have t0 : (A == 0) = false := by simpa using c0
      clear c1 c0
      go_enter Try.func18, Try.ntmps18
      go_wp2_with fail
      refine (HC.out _ _ (pair_new w _ _ _).1 (pair_new w _ _ _).2).mono ?_
      rintro e w1 ⟨rfl, hb1⟩
      have hB := below_two ((Below.refl w.heap.size w).alloc (Nat.le_refl _) _) hb1
      go_wp2_with fail
      refine (HG.out _).mono ?_
      rintro e w2 ⟨rfl, rfl⟩
      go_wp2_with fail
      refine (HA.out _).mono ?_
      rintro e w2 ⟨rfl, rfl⟩
      go_wp2
      go_ret2
      exact ⟨⟨_, _, rfl⟩, hB⟩
end Go.Proofs.Ytceocooppjfjjaa
