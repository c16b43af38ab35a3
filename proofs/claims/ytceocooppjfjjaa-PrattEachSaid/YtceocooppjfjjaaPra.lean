/- Contracts of package pratt: generates, holds, Check. -/
import Derived.Test.YtceocooppjfjjaaLine
import Derived.Test.YtceocooppjfjjaaPow
import Derived.RangeFuncBox
namespace Go.Proofs.Ytceocooppjfjjaa
open Go.RowKit
set_option linter.unusedVariables false
set_option linter.unusedSimpArgs false
set_option maxHeartbeats 800000 in
theorem pratt_gen1 (b1 b2 : Nat) (g n q : Int) (w : World) (c1 : w.cell? ⟨b1, 0, none⟩ = some (.int .i64 g)) (c2 : w.cell? ⟨b2, 0, none⟩ = some (.int .i64 n)) (hn : 1 ≤ n) (hn2 : n ≤ 1048576) (hq : 1 ≤ q) (hq2 : q ≤ 1048576) :
    Calls Try.prog 73 #[.int .i64 q, .pointer (some ⟨b1, 0, none⟩), .pointer (some ⟨b2, 0, none⟩)] w fun e w' => e = .returned (.bool (g ^ ((n - 1) / q).toNat % n == 1)) ∧ Below w.heap.size w w' := by
  have d0 : 0 ≤ (n - 1) / q := Int.ediv_nonneg (by omega) (by omega)
  have d1 : (n - 1) / q ≤ n - 1 := Int.ediv_le_self _ (by omega)
  have e0 : 0 ≤ n - 1 := by omega
  have e1 : (n - 1).tdiv q = (n - 1) / q := Int.tdiv_eq_ediv_of_nonneg e0
  have e2 : IntKind.i64.wrap (n - 1) = n - 1 := IntWalk.i64_in _ (by omega)
  have e3 : IntKind.i64.wrap ((n - 1) / q) = (n - 1) / q := IntWalk.i64_in _ (by omega)
  have q0 : ¬ q = 0 := by omega
  have HC := Lib.hid (fun W => power_Of g ((n - 1) / q) n W d0 (by omega) hn hn2)
  go_enter Try.func73, Try.ntmps73
  go_wp2
  go_quiet ((go_at_call 40; exact quiet_same (HC.out _)))
  go_wp2
  go_ret
  exact ⟨rfl, below_drewN (Below.refl _ _) _⟩
set_option maxHeartbeats 800000 in
theorem pratt_generates (g n : Int) (a : Option Addr) (c : Nat) (ps : List Int) (L : Nat) (w : World) (hL : ps.length = L) (h : RowL w a c ps) (hl : L ≤ 4611686018427387904) (hn : 1 ≤ n) (hn2 : n ≤ 1048576) (hp : ∀ q ∈ ps, 1 ≤ q ∧ q ≤ 1048576) :
    Calls Try.prog 50 #[.int .i64 g, .int .i64 n, .slice a L c] w fun e w' => e = .returned (.bool (M.genB g n ps)) ∧ Below w.heap.size w w' := by
  have e2 : IntKind.i64.wrap (n - 1) = n - 1 := IntWalk.i64_in _ (by omega)
  have HC := Lib.hid (fun W => power_Of g (n - 1) n W (by omega) (by omega) hn hn2)
  have hcl : ∀ W x, Below ((w.alloc (.cells #[.int .i64 g] 2)).alloc (.cells #[.int .i64 n] 2)).heap.size ((w.alloc (.cells #[.int .i64 g] 2)).alloc (.cells #[.int .i64 n] 2)) W → x ∈ ps →
      Calls Try.prog 73 (#[.int .i64 x] ++ #[.pointer (some ⟨w.heap.size, 0, none⟩), .pointer (some ⟨w.heap.size + 1, 0, none⟩)]) W fun e w' => e = .returned (.bool (g ^ ((n - 1) / x).toNat % n == 1)) ∧ Below W.heap.size W w' := fun W x hb hx => by
    have hx' := hp x hx
    have k1 : ((w.alloc (.cells #[.int .i64 g] 2)).alloc (.cells #[.int .i64 n] 2)).cell? ⟨w.heap.size, 0, none⟩ = some (.int .i64 g) := by
      simp only [World.cell?]
      rw [Below.heap_alloc _ _ _ (by simp), World.alloc_heap_new]; rfl
    have k2 : ((w.alloc (.cells #[.int .i64 g] 2)).alloc (.cells #[.int .i64 n] 2)).cell? ⟨w.heap.size + 1, 0, none⟩ = some (.int .i64 n) := by
      have h1 := World.alloc_heap_new (w.alloc (.cells #[.int .i64 g] 2)) (.cells #[.int .i64 n] 2)
      simp only [World.size_alloc] at h1
      simp only [World.cell?, h1]; rfl
    exact pratt_gen1 _ _ g n x W (kept hb k1 (by simp; omega)) (kept hb k2 (by simp)) hn hn2 hx'.1 hx'.2
  have HR := Lib.hid ((h.below (((Below.refl _ w).alloc (Nat.le_refl _) (.cells #[.int .i64 g] 2)).alloc (by simp) (.cells #[.int .i64 n] 2)) (Nat.le_refl _)))
  have HL := Lib.hid hL
  have HCL := Lib.hid hcl
  clear hcl hp h hL
  obtain ⟨X, hX⟩ : ∃ X, g ^ (n - 1).toNat % n = X := ⟨_, rfl⟩
  obtain ⟨Y, hY⟩ : ∃ Y, Y = M.genB g n ps := ⟨_, rfl⟩
  rw [← hY]
  unfold M.genB at hY
  rw [hX] at hY HC
  by_cases h1 : X = 1
  · have h2 : (X != 1) = false := by simp [h1]
    have HY := Lib.hid hY
    clear hX hY
    go_enter Try.func50, Try.ntmps50
    go_wp2_with fail
    refine (HC.out _).mono ?_
    rintro e w' ⟨rfl, rfl⟩
    go_wp2_with fail
    have := contains_longsB 73 #[.pointer (some ⟨w.heap.size, 0, none⟩), .pointer (some ⟨w.heap.size + 1, 0, none⟩)] (enters_of Try.func73 (by kernel_rfl) rfl) _ a c ps _ HR.out (by rw [HL.out]; exact hl) HCL.out
    rw [HL.out] at this
    refine this.mono ?_
    rintro e w' ⟨rfl, hb⟩
    have HB := Lib.hid hb
    clear hb this
    go_wp2
    go_ret
    refine ⟨ret_bool ?_, ?_⟩
    · rw [HY.out, h1]; simp
    · exact (((Below.refl _ w).alloc (Nat.le_refl _) _).alloc (by simp) _).trans (HB.out.mono (by simp; omega))
  · have h2 : (X != 1) = true := by simp [h1]
    have h3 : Y = false := by rw [hY]; simp [h1]
    have HY := Lib.hid h3
    clear hX hY h3
    go_enter Try.func50, Try.ntmps50
    go_wp2_with fail
    refine (HC.out _).mono ?_
    rintro e w' ⟨rfl, rfl⟩
    go_wp2
    go_ret
    refine ⟨ret_bool HY.out.symm, ?_⟩
    exact ((Below.refl _ w).alloc (Nat.le_refl _) _).alloc (by simp) _
end Go.Proofs.Ytceocooppjfjjaa
