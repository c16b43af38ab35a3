/- The walk of ShakeSame. -/
import Derived.Test.YtgmkmlfppblpfaaAns
import Derived.Test.YtgmkmlfppblpfaaWGrp
namespace Go.Proofs.Ytgmkmlfppblpfaa
open Go.RowKit
set_option linter.unusedVariables false
set_option linter.unusedSimpArgs false
theorem shake_Start (P Q G H a : Int) (w : World) (h : shE P Q G H a G = 0) :
    Calls Try.prog 32 #[.agg #[.int .i64 P, .int .i64 Q, .int .i64 G, .int .i64 H], .int .i64 a] w fun e w' => e = .returned (.tuple #[.int .i64 (pw G a P), .int .i64 0]) ∧ Below w.heap.size w w' := by
  have HH := Lib.hid h
  clear h
  go_enter Try.func32, Try.ntmps32
  go_wp2_with fail
  refine (group_Public P Q G H a _ HH.out).mono ?_
  rintro e w1 ⟨rfl, hb1⟩
  go_wp2
  go_ret2
  exact ⟨rfl, below_two ((Below.refl _ _).alloc (Nat.le_refl _) _) hb1⟩
theorem shake_Start_no (P Q G H a : Int) (w : World) (h : ¬ shE P Q G H a G = 0) :
    Calls Try.prog 32 #[.agg #[.int .i64 P, .int .i64 Q, .int .i64 G, .int .i64 H], .int .i64 a] w fun e w' => (∃ v, e = .returned (.tuple #[v, .int .i64 (shE P Q G H a G)])) ∧ Below w.heap.size w w' := by
  have HH := Lib.hid h
  clear h
  go_enter Try.func32, Try.ntmps32
  go_wp2_with fail
  refine (group_Public_no P Q G H a _ HH.out).mono ?_
  rintro e w1 ⟨rfl, hb1⟩
  go_wp2
  go_ret2
  exact ⟨⟨_, rfl⟩, below_two ((Below.refl _ _).alloc (Nat.le_refl _) _) hb1⟩
theorem public_any (P Q G H a : Int) (w : World) :
    Calls Try.prog 14 #[.agg #[.int .i64 P, .int .i64 Q, .int .i64 G, .int .i64 H], .int .i64 a] w fun e w' => (∃ v : Int, e = .returned (.tuple #[.int .i64 v, .int .i64 (shE P Q G H a G)])) ∧ Below w.heap.size w w' := by
  by_cases h : shE P Q G H a G = 0
  · exact (group_Public P Q G H a w h).mono fun e w' ⟨h1, h2⟩ => ⟨⟨_, by rw [h]; exact h1⟩, h2⟩
  · exact (group_Public_no P Q G H a w h).mono fun e w' ⟨h1, h2⟩ => ⟨⟨_, h1⟩, h2⟩
theorem start_any (P Q G H a : Int) (w : World) :
    Calls Try.prog 32 #[.agg #[.int .i64 P, .int .i64 Q, .int .i64 G, .int .i64 H], .int .i64 a] w fun e w' => (∃ v, e = .returned (.tuple #[v, .int .i64 (shE P Q G H a G)])) ∧ Below w.heap.size w w' := by
  by_cases h : shE P Q G H a G = 0
  · exact (shake_Start P Q G H a w h).mono fun e w' ⟨h1, h2⟩ => ⟨⟨_, by rw [h]; exact h1⟩, h2⟩
  · exact shake_Start_no P Q G H a w h
set_option maxRecDepth 100000 in
set_option maxHeartbeats 3200000 in
theorem shk_bad (P Q G H s k l g : Int) (w : World) (hb : ¬ (grpE P Q G H = 0 ∧ powsB Q [s, k, l] = true)) :
    Calls Try.prog 13 #[.agg #[.int .i64 P, .int .i64 Q, .int .i64 G, .int .i64 H], .int .i64 s, .int .i64 k, .int .i64 l, .int .i64 g] w fun e w' => e = .returned (.bool true) ∧ Below w.heap.size w w' := by
  have HP3 : Hid ((powsB Q [s, k, l] && (grpE P Q G H == 0)) = false) := Lib.hid (by
    cases e : (powsB Q [s, k, l] && (grpE P Q G H == 0))
    · rfl
    · simp at e; exact absurd ⟨e.2, e.1⟩ hb)
  have HP1 : Hid (shE P Q G H s G = 0 → shE P Q G H k G = 0 → (powsB Q [l] && (grpE P Q G H == 0)) = false) := Lib.hid fun h1 h2 => by
    cases e : (powsB Q [l] && (grpE P Q G H == 0))
    · rfl
    · simp at e
      refine absurd ⟨e.2, ?_⟩ hb
      have q1 := (shE_own e.2).1 h1
      have q2 := (shE_own e.2).1 h2
      have q3 := e.1
      simp [powsB] at q3 ⊢
      omega
  have HA := Lib.hid (fun w => public_any P Q G H s w)
  have HB := Lib.hid (fun w => start_any P Q G H k w)
  obtain ⟨X, hX⟩ : ∃ X, shE P Q G H s G = X := ⟨_, rfl⟩
  obtain ⟨Y, hY⟩ : ∃ X, shE P Q G H k G = X := ⟨_, rfl⟩
  rw [hX] at HP1 HA
  rw [hY] at HP1 HB
  clear hb hX hY
  by_cases x0 : X = 0
  · subst x0
    by_cases y0 : Y = 0
    · subst y0
      have HP1 := Lib.hid (HP1.out rfl rfl)
      go_enter Try.func13, Try.ntmps13
      go_wp2_with fail
      refine (HA.out _).mono ?_
      rintro e w1 ⟨⟨v1, rfl⟩, hb1⟩
      have z1 := hb1.size
      simp at z1
      have k0 := kept hb1 (b := w.heap.size) (o := 0) (v := .int .i64 P) (by simp [go_sem]) (by simp [go_sem] <;> omega)
      have k1 := kept hb1 (b := w.heap.size) (o := 1) (v := .int .i64 Q) (by simp [go_sem]) (by simp [go_sem] <;> omega)
      have k2 := kept hb1 (b := w.heap.size) (o := 2) (v := .int .i64 G) (by simp [go_sem]) (by simp [go_sem] <;> omega)
      have k3 := kept hb1 (b := w.heap.size) (o := 3) (v := .int .i64 H) (by simp [go_sem]) (by simp [go_sem] <;> omega)
      go_wp2_with fail
      refine (HB.out _).mono ?_
      rintro e w2 ⟨⟨v2, rfl⟩, hb2⟩
      have z2 := hb2.size
      replace k0 := kept hb2 k0 (by omega)
      replace k1 := kept hb2 k1 (by omega)
      replace k2 := kept hb2 k2 (by omega)
      replace k3 := kept hb2 k3 (by omega)
      go_wp2_with fail
      refine (keep_powers P Q G H _ 3 [s, k, l] _ ?r1 (by simp)).mono ?_
      case r1 => exact RowI.cells (fun i x hx => by rcases i with _ | _ | _ | i <;> simp at hx <;> subst hx <;> simp)
      rintro e w3 ⟨rfl, hb3⟩
      rw [HP3.out]
      replace hb3 := below_two ((Below.refl _ w2).alloc (Nat.le_refl _) _) hb3
      have z3 := hb3.size
      replace k0 := kept hb3 k0 (by omega)
      replace k1 := kept hb3 k1 (by omega)
      replace k2 := kept hb3 k2 (by omega)
      replace k3 := kept hb3 k3 (by omega)
      have hbt := below_two (below_two (below_two ((Below.refl w.heap.size w).alloc (Nat.le_refl _) _) hb1) hb2) hb3
      go_wp2_with fail
      refine (keep_powers P Q G H _ 1 [l] _ ?r2 (by simp)).mono ?_
      case r2 => exact RowI.one (by simp [go_sem]) (by simp [go_sem])
      rintro e w4 ⟨rfl, hb4⟩
      rw [HP1.out]
      go_wp2
      all_goals first | exact trivial | skip
      go_ret
      exact ⟨rfl, below_two (below_two hbt ((Below.refl _ w3).alloc (Nat.le_refl _) _)) hb4⟩
    · have y1 : (Y == 0) = false := by simpa using y0
      have y2 : (Y != 0) = true := by simpa using y0
      clear y0 HP1
      go_enter Try.func13, Try.ntmps13
      go_wp2_with fail
      refine (HA.out _).mono ?_
      rintro e w1 ⟨⟨v1, rfl⟩, hb1⟩
      have z1 := hb1.size
      simp at z1
      have k0 := kept hb1 (b := w.heap.size) (o := 0) (v := .int .i64 P) (by simp [go_sem]) (by simp [go_sem] <;> omega)
      have k1 := kept hb1 (b := w.heap.size) (o := 1) (v := .int .i64 Q) (by simp [go_sem]) (by simp [go_sem] <;> omega)
      have k2 := kept hb1 (b := w.heap.size) (o := 2) (v := .int .i64 G) (by simp [go_sem]) (by simp [go_sem] <;> omega)
      have k3 := kept hb1 (b := w.heap.size) (o := 3) (v := .int .i64 H) (by simp [go_sem]) (by simp [go_sem] <;> omega)
      go_wp2_with fail
      refine (HB.out _).mono ?_
      rintro e w2 ⟨⟨v2, rfl⟩, hb2⟩
      have z2 := hb2.size
      replace k0 := kept hb2 k0 (by omega)
      replace k1 := kept hb2 k1 (by omega)
      replace k2 := kept hb2 k2 (by omega)
      replace k3 := kept hb2 k3 (by omega)
      go_wp2_with fail
      refine (keep_powers P Q G H _ 3 [s, k, l] _ ?r1 (by simp)).mono ?_
      case r1 => exact RowI.cells (fun i x hx => by rcases i with _ | _ | _ | i <;> simp at hx <;> subst hx <;> simp)
      rintro e w3 ⟨rfl, hb3⟩
      rw [HP3.out]
      replace hb3 := below_two ((Below.refl _ w2).alloc (Nat.le_refl _) _) hb3
      have z3 := hb3.size
      replace k0 := kept hb3 k0 (by omega)
      replace k1 := kept hb3 k1 (by omega)
      replace k2 := kept hb3 k2 (by omega)
      replace k3 := kept hb3 k3 (by omega)
      have hbt := below_two (below_two (below_two ((Below.refl w.heap.size w).alloc (Nat.le_refl _) _) hb1) hb2) hb3
      go_wp2
      go_ret
      exact ⟨rfl, hbt⟩
  · have y1 : (X == 0) = false := by simpa using x0
    have y2 : (X != 0) = true := by simpa using x0
    clear x0 HP1
    go_enter Try.func13, Try.ntmps13
    go_wp2_with fail
    refine (HA.out _).mono ?_
    rintro e w1 ⟨⟨v1, rfl⟩, hb1⟩
    have z1 := hb1.size
    simp at z1
    have k0 := kept hb1 (b := w.heap.size) (o := 0) (v := .int .i64 P) (by simp [go_sem]) (by simp [go_sem] <;> omega)
    have k1 := kept hb1 (b := w.heap.size) (o := 1) (v := .int .i64 Q) (by simp [go_sem]) (by simp [go_sem] <;> omega)
    have k2 := kept hb1 (b := w.heap.size) (o := 2) (v := .int .i64 G) (by simp [go_sem]) (by simp [go_sem] <;> omega)
    have k3 := kept hb1 (b := w.heap.size) (o := 3) (v := .int .i64 H) (by simp [go_sem]) (by simp [go_sem] <;> omega)
    go_wp2_with fail
    refine (HB.out _).mono ?_
    rintro e w2 ⟨⟨v2, rfl⟩, hb2⟩
    have z2 := hb2.size
    replace k0 := kept hb2 k0 (by omega)
    replace k1 := kept hb2 k1 (by omega)
    replace k2 := kept hb2 k2 (by omega)
    replace k3 := kept hb2 k3 (by omega)
    go_wp2_with fail
    refine (keep_powers P Q G H _ 3 [s, k, l] _ ?r1 (by simp)).mono ?_
    case r1 => exact RowI.cells (fun i x hx => by rcases i with _ | _ | _ | i <;> simp at hx <;> subst hx <;> simp)
    rintro e w3 ⟨rfl, hb3⟩
    rw [HP3.out]
    replace hb3 := below_two ((Below.refl _ w2).alloc (Nat.le_refl _) _) hb3
    have z3 := hb3.size
    replace k0 := kept hb3 k0 (by omega)
    replace k1 := kept hb3 k1 (by omega)
    replace k2 := kept hb3 k2 (by omega)
    replace k3 := kept hb3 k3 (by omega)
    have hbt := below_two (below_two (below_two ((Below.refl w.heap.size w).alloc (Nat.le_refl _) _) hb1) hb2) hb3
    go_wp2
    go_ret
    exact ⟨rfl, hbt⟩
set_option maxRecDepth 100000 in
set_option maxHeartbeats 6400000 in
theorem shk_good (P Q G H s k l g : Int) (w : World) (hg : grpE P Q G H = 0) (hp : powsB Q [s, k, l] = true) :
    Calls Try.prog 13 #[.agg #[.int .i64 P, .int .i64 Q, .int .i64 G, .int .i64 H], .int .i64 s, .int .i64 k, .int .i64 l, .int .i64 g] w fun e w' => e = .returned (.bool true) ∧ Below w.heap.size w w' := by
  have HP3 : Hid ((powsB Q [s, k, l] && (grpE P Q G H == 0)) = true) := Lib.hid (by simp [hp, hg])
  have ⟨⟨g1, g2, g3, g4, g5, _⟩, hpp, hqq, _, hgm, _⟩ := grpE_zero hg
  have hgG := (shE_zero (shE_ok hg (Int.le_refl 0) (by omega) (grpE_zero hg).2.2.2.2.1)).2.2.2
  obtain ⟨⟨s1, s2⟩, ⟨k1, k2⟩, l1, l2⟩ : (0 ≤ s ∧ s < Q) ∧ (0 ≤ k ∧ k < Q) ∧ (0 ≤ l ∧ l < Q) := by simp [powsB] at hp; omega
  have P1 : 1 ≤ P := by omega
  have mS := mem_pw (k := s) (by omega) (by omega) hgG s1
  have mK := mem_pw (k := k) (by omega) (by omega) hgG k1
  have mL := mem_pw (k := l) (by omega) (by omega) hgG l1
  have hs := (shE_own (a := s) hg).2 ⟨s1, s2⟩
  have hk := (shE_own (a := k) hg).2 ⟨k1, k2⟩
  have hl := (shE_own (a := l) hg).2 ⟨l1, l2⟩
  have HA := Lib.hid fun w => (group_Public P Q G H s w hs).mono fun e w' h => (⟨⟨pw G s P, h.1⟩, h.2⟩ : (∃ v : Int, e = .returned (.tuple #[.int .i64 v, .int .i64 0])) ∧ _)
  have HA := Lib.hid fun w => group_Public P Q G H s w hs
  have HB := Lib.hid fun w => shake_Start P Q G H k w hk
  have HAns := Lib.hid fun w => shake_Answer P Q G H s l (pw G k P) w (by omega) g2 ⟨by have := pw_nonneg G k P1; omega, by have := pw_lt G k P1; omega⟩ hs hl (shE_ok hg s1 s2 mK) (shE_ok hg l1 l2 mK)
  have HFin := Lib.hid fun (rT rK : Int) w => shake_Finish P Q G H k (pw G s P) (pw G l P) rT rK w (by omega) g2 ⟨by have := pw_nonneg G s P1; omega, by have := pw_lt G s P1; omega⟩ ⟨by have := pw_nonneg G l P1; omega, by have := pw_lt G l P1; omega⟩ hk (shE_ok hg k1 k2 mS) (shE_ok hg k1 k2 mL)
  have e1 : pw (pw G s P) k P = pw (pw G k P) s P := by rw [pw_pw G P s1 k1, pw_pw G P k1 s1, Int.mul_comm]
  have e2 : pw (pw G l P) k P = pw (pw G k P) l P := by rw [pw_pw G P l1 k1, pw_pw G P k1 l1, Int.mul_comm]
  rw [e1, e2] at HFin
  have hKpos : 1 ≤ pw G k P := (memB_iff.1 mK).1
  obtain ⟨T, hT⟩ : ∃ T, sumN (2 :: shkN (pw G k P) (pw G l P) (pw G s P) (pw (pw G k P) s P) (pw (pw G k P) l P)) = T := ⟨_, rfl⟩
  obtain ⟨Y, hY⟩ : ∃ T, sumN (1 :: shkN (pw G k P) (pw G l P) (pw G s P) (pw (pw G k P) s P) (pw (pw G k P) l P)) = T := ⟨_, rfl⟩
  rw [hT, hY] at HAns HFin
  obtain ⟨X, hX⟩ : ∃ T, pw G s P = T := ⟨_, rfl⟩
  obtain ⟨K, hK⟩ : ∃ T, pw G k P = T := ⟨_, rfl⟩
  obtain ⟨E, hE⟩ : ∃ T, pw G l P = T := ⟨_, rfl⟩
  rw [hX] at HA HFin
  rw [hK] at HB HAns hKpos
  rw [hE] at HAns HFin
  have HF1 := Lib.hid fun (rK : Int) w => (HFin.out (T : Int) rK w).mono fun e w' h => (⟨h.1.1 rfl, h.2⟩ : e = .returned (.tuple #[.int .i64 Y, .int .i64 0]) ∧ _)
  have HF2 := Lib.hid fun (h0 : ¬ (T : Int) = g) (rK : Int) w => (HFin.out g rK w).mono fun e w' h => (⟨h.1.2 h0, h.2⟩ : e = .returned (.tuple #[.int .i64 0, .int .i64 8]) ∧ _)
  clear hT hY hX hK hE e1 e2 mS mK mL hs hk hl HFin hg hp hgG hpp hqq hgm g1 g2 g3 g4 g5 s1 s2 k1 k2 l1 l2 P1
  go_enter Try.func13, Try.ntmps13
  go_wp2_with fail
  refine (HA.out _).mono ?_
  rintro e w1 ⟨rfl, hb1⟩
  have z1 := hb1.size
  simp at z1
  have k0 := kept hb1 (b := w.heap.size) (o := 0) (v := .int .i64 P) (by simp [go_sem]) (by simp [go_sem] <;> omega)
  have k1 := kept hb1 (b := w.heap.size) (o := 1) (v := .int .i64 Q) (by simp [go_sem]) (by simp [go_sem] <;> omega)
  have k2 := kept hb1 (b := w.heap.size) (o := 2) (v := .int .i64 G) (by simp [go_sem]) (by simp [go_sem] <;> omega)
  have k3 := kept hb1 (b := w.heap.size) (o := 3) (v := .int .i64 H) (by simp [go_sem]) (by simp [go_sem] <;> omega)
  go_wp2_with fail
  refine (HB.out _).mono ?_
  rintro e w2 ⟨rfl, hb2⟩
  have z2 := hb2.size
  replace k0 := kept hb2 k0 (by omega)
  replace k1 := kept hb2 k1 (by omega)
  replace k2 := kept hb2 k2 (by omega)
  replace k3 := kept hb2 k3 (by omega)
  go_wp2_with fail
  refine (keep_powers P Q G H _ 3 [s, k, l] _ ?r1 (by simp)).mono ?_
  case r1 => exact RowI.cells (fun i x hx => by rcases i with _ | _ | _ | i <;> simp at hx <;> subst hx <;> simp)
  rintro e w3 ⟨rfl, hb3⟩
  rw [HP3.out]
  replace hb3 := below_two ((Below.refl _ w2).alloc (Nat.le_refl _) _) hb3
  have z3 := hb3.size
  replace k0 := kept hb3 k0 (by omega)
  replace k1 := kept hb3 k1 (by omega)
  replace k2 := kept hb3 k2 (by omega)
  replace k3 := kept hb3 k3 (by omega)
  have hbt := below_two (below_two (below_two ((Below.refl w.heap.size w).alloc (Nat.le_refl _) _) hb1) hb2) hb3
  go_wp2_with fail
  refine (HAns.out _).mono ?_
  rintro e w4 ⟨rfl, hb4⟩
  have z4 := hb4.size
  replace k0 := kept hb4 k0 (by omega)
  replace k1 := kept hb4 k1 (by omega)
  replace k2 := kept hb4 k2 (by omega)
  replace k3 := kept hb4 k3 (by omega)
  replace hbt := below_two hbt hb4
  have A4 : Below w4.heap.size w4 (w4.alloc (.cells #[.int .i64 E, .int .i64 T, .int .i64 Y] 58)) := (Below.refl _ _).alloc (Nat.le_refl _) _
  have zz : w.heap.size < w4.heap.size := World.block_lt_of_cell? w4 _ k0
  have q0 : ¬ w4.heap.size = w.heap.size := by omega
  have q0' : ¬ w.heap.size = w4.heap.size := by omega
  go_wp2_with fail
  refine (HF1.out (Y : Int) _).mono ?_
  rintro e w5 ⟨rfl, hb5⟩
  have y0 := kept hb5 (b := w4.heap.size) (o := 0) (v := .int .i64 E) (by simp [go_sem]) (by simp)
  have y1 := kept hb5 (b := w4.heap.size) (o := 1) (v := .int .i64 T) (by simp [go_sem]) (by simp)
  have y2 := kept hb5 (b := w4.heap.size) (o := 2) (v := .int .i64 Y) (by simp [go_sem]) (by simp)
  have yf := frozK hb5 (b := w4.heap.size) (o := 2) (by simp) (by simp [go_sem])
  replace hb5 := below_two A4 hb5
  have z5 := hb5.size
  replace k0 := kept hb5 k0 (by omega)
  replace k1 := kept hb5 k1 (by omega)
  replace k2 := kept hb5 k2 (by omega)
  replace k3 := kept hb5 k3 (by omega)
  replace hbt := below_two hbt hb5
  have z5' : w4.heap.size < w5.heap.size := World.block_lt_of_cell? w5 _ y0
  clear hb1 hb2 hb3 hb4 hb5 A4
  go_wp2_with fail
  refine (HF1.out 0 _).mono ?_
  rintro e w6 ⟨rfl, hb6⟩
  replace k0 := kept hb6 (v := .int .i64 P) (b := w.heap.size) (o := 0) (by simp [go_sem, k0, q0]) (by simp; omega)
  replace k1 := kept hb6 (v := .int .i64 Q) (b := w.heap.size) (o := 1) (by simp [go_sem, k1, q0]) (by simp; omega)
  replace k2 := kept hb6 (v := .int .i64 G) (b := w.heap.size) (o := 2) (by simp [go_sem, k2, q0]) (by simp; omega)
  replace k3 := kept hb6 (v := .int .i64 H) (b := w.heap.size) (o := 3) (by simp [go_sem, k3, q0]) (by simp; omega)
  have z6 := hb6.size
  simp at z6
  replace hbt := (hbt.setCell (p := ⟨w4.heap.size, 2, none⟩) (by simp; omega) (.int .i64 0)).trans (hb6.mono (by simp; omega))
  go_wp2_with fail
  refine (HAns.out _).mono ?_
  rintro e w7 ⟨rfl, hb7⟩
  have z7 := hb7.size
  replace k0 := kept hb7 k0 (by omega)
  replace k1 := kept hb7 k1 (by omega)
  replace k2 := kept hb7 k2 (by omega)
  replace k3 := kept hb7 k3 (by omega)
  replace hbt := below_two hbt hb7
  have zw : w.heap.size < w7.heap.size := World.block_lt_of_cell? w7 _ k0
  have u0 : ¬ w7.heap.size = w.heap.size := by omega
  have u0' : ¬ w.heap.size = w7.heap.size := by omega
  by_cases hTg : (T : Int) = g
  · subst hTg
    clear HF2
    go_wp2_with fail
    refine (HF1.out (Y : Int) _).mono ?_
    rintro e w8 ⟨rfl, hb8⟩
    have y8 := kept hb8 (b := w7.heap.size) (o := 2) (v := .int .i64 Y) (by simp [go_sem]) (by simp)
    have z8 := hb8.size
    simp at z8
    replace hbt := below_two (hbt.alloc (Nat.le_of_lt zw) _) hb8
    clear hb8
    go_wp2
    go_ret
    exact ⟨rfl, hbt⟩
  · have HF2 := Lib.hid (HF2.out hTg)
    have t1 : (g == (T : Int)) = false := by rw [beq_eq_false_iff_ne]; exact fun e => hTg e.symm
    clear HF1 hTg
    go_wp2_with fail
    refine (HF2.out (Y : Int) _).mono ?_
    rintro e w8 ⟨rfl, hb8⟩
    have y8 := kept hb8 (b := w7.heap.size) (o := 2) (v := .int .i64 Y) (by simp [go_sem]) (by simp)
    have z8 := hb8.size
    simp at z8
    replace hbt := below_two (hbt.alloc (Nat.le_of_lt zw) _) hb8
    clear hb8
    go_wp2
    go_ret
    exact ⟨rfl, hbt⟩
set_option maxRecDepth 100000 in
theorem WShakeSame (a0x : Int) (a0y : Int) (a0z : Int) (a0u : Int) (a1 : Int) (a2 : Int) (a3 : Int) (a4 : Int) (w : World) (w0x : (Lit.int .i64 a0x).wf = true) (w0y : (Lit.int .i64 a0y).wf = true) (w0z : (Lit.int .i64 a0z).wf = true) (w0u : (Lit.int .i64 a0u).wf = true) (w1 : (Lit.int .i64 a1).wf = true) (w2 : (Lit.int .i64 a2).wf = true) (w3 : (Lit.int .i64 a3).wf = true) (w4 : (Lit.int .i64 a4).wf = true) :
    Calls Try.prog 13 #[.agg #[.int .i64 a0x, .int .i64 a0y, .int .i64 a0z, .int .i64 a0u], .int .i64 a1, .int .i64 a2, .int .i64 a3, .int .i64 a4] w fun e w' => e = .returned (.bool true) ∧ Below w.heap.size w w' := by
  by_cases h : grpE a0x a0y a0z a0u = 0 ∧ powsB a0y [a1, a2, a3] = true
  · exact shk_good a0x a0y a0z a0u a1 a2 a3 a4 w h.1 h.2
  · exact shk_bad a0x a0y a0z a0u a1 a2 a3 a4 w h
end Go.Proofs.Ytgmkmlfppblpfaa
