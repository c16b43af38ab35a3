/- The contract of talk.Feign. -/
import Derived.Test.YtgmkmlfppblpfaaWTw
import Derived.StillTailTactics
namespace Go.Proofs.Ytgmkmlfppblpfaa
open Go.RowKit
set_option linter.unusedVariables false
set_option linter.unusedSimpArgs false
set_option maxRecDepth 20000 in
set_option maxHeartbeats 1600000 in
theorem talk_Feign (P Q G H y q v : Int) (w : World) (hg : grpE P Q G H = 0) (hs : saidB P Q y [(1, q, v)] = true) :
    Calls Try.prog 26 #[.agg #[.int .i64 P, .int .i64 Q, .int .i64 G, .int .i64 H], .int .i64 y, .int .i64 q, .int .i64 v] w fun e w' => e = .returned (.tuple #[.agg #[.int .i64 (pw G v P * pw y (Q - q) P % P), .int .i64 q, .int .i64 v], .int .i64 0]) ∧ Below w.heap.size w w' := by
  have HG := Lib.hid hg
  have HS := Lib.hid hs
  obtain ⟨⟨⟨q1, q2⟩, v1, v2⟩, hy, hf⟩ := said_one.1 hs
  have ⟨⟨g1, g2, g3, g4, g5, _⟩, _⟩ := grpE_zero hg
  have a1 := pw_nonneg y (Q - q) (show 1 ≤ P by omega)
  have a2 := pw_lt y (Q - q) (show 1 ≤ P by omega)
  have b1 := pw_nonneg G v (show 1 ≤ P by omega)
  have b2 := pw_lt G v (show 1 ≤ P by omega)
  obtain ⟨x, hx⟩ : ∃ x, pw y (Q - q) P = x := ⟨_, rfl⟩
  obtain ⟨z, hz⟩ : ∃ x, pw G v P = x := ⟨_, rfl⟩
  rw [hx] at a1 a2
  rw [hz] at b1 b2
  rw [hx, hz]
  have HX := Lib.hid hx
  have HZ := Lib.hid hz
  clear hg hs hy hf hx hz
  have m := mul_lim b1 (show z ≤ 1048576 by omega) a1 (show x ≤ 1048576 by omega)
  have f1 : IntKind.i64.wrap (z * x) = z * x := IntWalk.i64_in _ (by omega)
  have f5 : Int.tmod (z * x) P = z * x % P := Int.tmod_eq_emod_of_nonneg (by omega)
  have f3 : (P == 0) = false := by simp; omega
  have f4 : ¬ P = 0 := by omega
  have f6 : IntKind.i64.wrap (Q - q) = Q - q := IntWalk.i64_in _ (by omega)
  go_enter Try.func26, Try.ntmps26
  go_wp2_with fail
  refine (talk_said P Q G H y _ 1 [(1, q, v)] _ ?r1 (by simp) HG.out).mono ?_
  case r1 => exact RowT.one (by simp [go_sem]) (by simp [go_sem]) (by simp [go_sem]) (by simp [go_sem] <;> omega)
  rintro e w1 ⟨⟨hs, rfl⟩ | ⟨hs, t, ht, rfl⟩, hb1⟩
  · have z1 := hb1.size
    simp at z1
    have k0 := kept hb1 (b := w.heap.size) (o := 0) (v := .int .i64 P) (by simp [go_sem]) (by simp [go_sem] <;> omega)
    have k1 := kept hb1 (b := w.heap.size) (o := 1) (v := .int .i64 Q) (by simp [go_sem]) (by simp [go_sem] <;> omega)
    have k2 := kept hb1 (b := w.heap.size) (o := 2) (v := .int .i64 G) (by simp [go_sem]) (by simp [go_sem] <;> omega)
    have r0' := kept hb1 (b := w.heap.size + 1) (o := 0) (v := .int .i64 0) (by simp [go_sem]) (by simp [go_sem] <;> omega)
    have s0 := (froz hb1 (b := w.heap.size + 1) (o := 0) (by simp [go_sem] <;> omega)).trans (show _ = false by simp [go_sem])
    have r1' := kept hb1 (b := w.heap.size + 1) (o := 1) (v := .int .i64 0) (by simp [go_sem]) (by simp [go_sem] <;> omega)
    have s1 := (froz hb1 (b := w.heap.size + 1) (o := 1) (by simp [go_sem] <;> omega)).trans (show _ = false by simp [go_sem])
    have r2' := kept hb1 (b := w.heap.size + 1) (o := 2) (v := .int .i64 0) (by simp [go_sem]) (by simp [go_sem] <;> omega)
    have s2 := (froz hb1 (b := w.heap.size + 1) (o := 2) (by simp [go_sem] <;> omega)).trans (show _ = false by simp [go_sem])
    have c0 := kept hb1 (b := w.heap.size + 1 + 1) (o := 0) (v := .int .i64 1) (by simp [go_sem]) (by simp [go_sem] <;> omega)
    have c1 := kept hb1 (b := w.heap.size + 1 + 1) (o := 1) (v := .int .i64 q) (by simp [go_sem]) (by simp [go_sem] <;> omega)
    have c2 := kept hb1 (b := w.heap.size + 1 + 1) (o := 2) (v := .int .i64 v) (by simp [go_sem]) (by simp [go_sem] <;> omega)
    have d0 := (froz hb1 (b := w.heap.size + 1 + 1) (o := 0) (by simp [go_sem] <;> omega)).trans (show _ = false by simp [go_sem])
    clear hs
    go_wp2_with fail
    refine wp_region_still_tail 19 (by kernel_rfl) (by kernel_rfl) ?_
    simp only [List.take_succ_cons, List.take_zero, List.drop_succ_cons, List.drop_zero]
    iterate 5 still_step
    still_call (still_of (power_Of' G v P _ (by omega) (by omega) (by omega) g2))
    rw [HZ.out]
    iterate 7 still_step
    still_call (still_of (power_Of' y (Q - q) P _ (by omega) (by omega) (by omega) g2))
    rw [HX.out]
    iterate 5 still_step
    refine wpStill_nil ?_
    change wpList _ _ _ _ _ w1.drew
    go_wp2
    refine bodyPost_ret (v := .tuple #[.agg #[.int .i64 (z * x % P), .int .i64 q, .int .i64 v], .int .i64 0]) ?_ rfl ?_
    · simp [results, Try.f26, go_sem, r0', r1', r2']
    · exact ⟨rfl, (((((below_two (((((Below.refl _ _).alloc (Nat.le_refl _) _).alloc (by simp) _).alloc (by simp <;> omega) _).alloc (by simp <;> omega) _) hb1).setCell (by simp <;> omega) _).setCell (by simp) _).setCell (by simp) _).setCell (by simp) _).drew⟩
  · exact absurd (HS.out.symm.trans hs) (by simp)
end Go.Proofs.Ytgmkmlfppblpfaa
