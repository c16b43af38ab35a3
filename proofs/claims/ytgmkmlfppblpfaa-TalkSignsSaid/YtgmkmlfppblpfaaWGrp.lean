/- The walks of the statements on groups. -/
import Derived.Test.YtgmkmlfppblpfaaGrp4
import Derived.Test.YtgmkmlfppblpfaaGrpM
namespace Go.Proofs.Ytgmkmlfppblpfaa
open Go.RowKit
set_option linter.unusedVariables false
set_option linter.unusedSimpArgs false
theorem shE_own {P Q G H a : Int} (h : grpE P Q G H = 0) : shE P Q G H a G = 0 ↔ 0 ≤ a ∧ a < Q := by
  refine ⟨fun h' => ⟨(shE_zero h').2.1, (shE_zero h').2.2.1⟩, fun h' => shE_ok h h'.1 h'.2 (grpE_zero h).2.2.2.2.1⟩
theorem shE_not {P Q G H a t : Int} (h : ¬ grpE P Q G H = 0) : ¬ shE P Q G H a t = 0 := fun h' => h (shE_zero h').1
set_option maxHeartbeats 3200000 in
theorem WGroupShares (P : Int) (Q : Int) (G : Int) (H : Int) (a : Int) (b : Int) (w : World) (w0x : (Lit.int .i64 P).wf = true) (w0y : (Lit.int .i64 Q).wf = true) (w0z : (Lit.int .i64 G).wf = true) (w0u : (Lit.int .i64 H).wf = true) (w1 : (Lit.int .i64 a).wf = true) (w2 : (Lit.int .i64 b).wf = true) :
    Calls Try.prog 3 #[.agg #[.int .i64 P, .int .i64 Q, .int .i64 G, .int .i64 H], .int .i64 a, .int .i64 b] w fun e w' => e = .returned (.bool true) ∧ Below w.heap.size w w' := by
  clear w0x w0y w0z w0u w1 w2
  by_cases ha : shE P Q G H a G = 0
  · by_cases hb : shE P Q G H b G = 0
    · obtain ⟨hg, a1, a2, a3⟩ := shE_zero ha
      obtain ⟨_, b1, b2, _⟩ := shE_zero hb
      have ⟨⟨g1, g2, g3, g4, g5, _⟩, hp, hq, _⟩ := grpE_zero hg
      have x1 := mem_pw (k := a) (by omega) (by omega) a3 a1
      have y1 := mem_pw (k := b) (by omega) (by omega) a3 b1
      have HS1 := Lib.hid (shE_ok hg a1 a2 y1)
      have HS2 := Lib.hid (shE_ok hg b1 b2 x1)
      have HST := Lib.hid (show pw (pw G a P) b P = pw (pw G b P) a P by rw [pw_pw G P a1 b1, pw_pw G P b1 a1, Int.mul_comm])
      have HMS := Lib.hid (mem_pw (k := a) (by omega) (by omega) y1 a1)
      have HMX := Lib.hid x1
      have HI := Lib.hid (fun (e : pw G a P = pw G b P) => pw_inj hp hq (by omega) g3 a3 g5 a1 a2 b1 b2 e)
      have HPW : Hid ((powsB Q [a, b] && (grpE P Q G H == 0)) = true) := Lib.hid (by simp [powsB, a1, a2, b1, b2, hg])
      have HA := Lib.hid ha
      have HB := Lib.hid hb
      obtain ⟨S, hS⟩ : ∃ S, pw (pw G b P) a P = S := ⟨_, rfl⟩
      obtain ⟨X, hX⟩ : ∃ X, pw G a P = X := ⟨_, rfl⟩
      obtain ⟨Y, hY⟩ : ∃ Y, pw G b P = Y := ⟨_, rfl⟩
      rw [hS] at HST HMS
      rw [hX] at HI HMX HS2 HST
      rw [hY] at HI HS1 hS
      have HXe := Lib.hid hX
      have HYe := Lib.hid hY
      have HSe := Lib.hid hS
      have HE : ((X == Y) == (a == b)) = true := by
        by_cases e : a = b
        · subst e; rw [← hX, ← hY]; simp
        · have : ¬ X = Y := fun h => e (HI.out h)
          rw [show (X == Y) = false by simpa using this, show (a == b) = false by simpa using e]; rfl
      clear ha hb hg a3 hp hq x1 y1 hS hX hY HI
      go_enter Try.func3, Try.ntmps3
      go_wp2_with fail
      refine (group_Public P Q G H a _ HA.out).mono ?_
      rintro e w1 ⟨rfl, hb1⟩
      rw [HXe.out]
      have z1 := hb1.size
      simp at z1
      have k0 := kept hb1 (b := w.heap.size) (o := 0) (v := .int .i64 P) (by simp [go_sem]) (by simp [go_sem] <;> omega)
      have k1 := kept hb1 (b := w.heap.size) (o := 1) (v := .int .i64 Q) (by simp [go_sem]) (by simp [go_sem] <;> omega)
      have k2 := kept hb1 (b := w.heap.size) (o := 2) (v := .int .i64 G) (by simp [go_sem]) (by simp [go_sem] <;> omega)
      have k3 := kept hb1 (b := w.heap.size) (o := 3) (v := .int .i64 H) (by simp [go_sem]) (by simp [go_sem] <;> omega)
      go_wp2_with fail
      refine (group_Public P Q G H b _ HB.out).mono ?_
      rintro e w2 ⟨rfl, hb2⟩
      rw [HYe.out]
      have z2 := hb2.size
      replace k0 := kept hb2 k0 (by omega)
      replace k1 := kept hb2 k1 (by omega)
      replace k2 := kept hb2 k2 (by omega)
      replace k3 := kept hb2 k3 (by omega)
      go_wp2_with fail
      refine (keep_powers P Q G H _ 2 [a, b] _ ?r1 (by simp)).mono ?_
      case r1 => exact RowI.two (by simp [go_sem]) (by simp [go_sem]) (by simp [go_sem])
      rintro e w3 ⟨rfl, hb3⟩
      rw [HPW.out]
      replace hb3 := below_two ((Below.refl _ w2).alloc (Nat.le_refl _) _) hb3
      have z3 := hb3.size
      replace k0 := kept hb3 k0 (by omega)
      replace k1 := kept hb3 k1 (by omega)
      replace k2 := kept hb3 k2 (by omega)
      replace k3 := kept hb3 k3 (by omega)
      go_wp2_with fail
      refine (group_Shared P Q G H a Y _ HS1.out).mono ?_
      rintro e w4 ⟨rfl, hb4⟩
      rw [HSe.out]
      have z4 := hb4.size
      replace k0 := kept hb4 k0 (by omega)
      replace k1 := kept hb4 k1 (by omega)
      replace k2 := kept hb4 k2 (by omega)
      replace k3 := kept hb4 k3 (by omega)
      go_wp2_with fail
      refine (group_Shared P Q G H b X _ HS2.out).mono ?_
      rintro e w5 ⟨rfl, hb5⟩
      rw [HST.out]
      have z5 := hb5.size
      replace k0 := kept hb5 k0 (by omega)
      replace k1 := kept hb5 k1 (by omega)
      replace k2 := kept hb5 k2 (by omega)
      replace k3 := kept hb5 k3 (by omega)
      go_wp2_with fail
      refine (ref_Member P Q G H S _ (by omega) g2 (by omega) (by omega)).mono ?_
      rintro e w6 ⟨rfl, hb6⟩
      rw [HMS.out]
      have z6 := hb6.size
      replace k0 := kept hb6 k0 (by omega)
      replace k1 := kept hb6 k1 (by omega)
      replace k2 := kept hb6 k2 (by omega)
      replace k3 := kept hb6 k3 (by omega)
      go_wp2_with fail
      refine (ref_Member P Q G H X _ (by omega) g2 (by omega) (by omega)).mono ?_
      rintro e w7 ⟨rfl, hb7⟩
      rw [HMX.out]
      have z7 := hb7.size
      replace k0 := kept hb7 k0 (by omega)
      replace k1 := kept hb7 k1 (by omega)
      replace k2 := kept hb7 k2 (by omega)
      replace k3 := kept hb7 k3 (by omega)
      go_wp2
      go_ret
      exact ⟨ret_bool (by simp [HE]), below_two (below_two (below_two (below_two (below_two (below_two (below_two ((Below.refl _ _).alloc (Nat.le_refl _) _) hb1) hb2) hb3) hb4) hb5) hb6) hb7⟩
    · have HPW : Hid ((powsB Q [a, b] && (grpE P Q G H == 0)) = false) := Lib.hid (by
        cases e : (powsB Q [a, b] && (grpE P Q G H == 0))
        · rfl
        · simp [powsB] at e
          exact absurd ((shE_own e.2).2 e.1.2) hb)
      obtain ⟨Y, hY⟩ : ∃ Y, shE P Q G H b G = Y := ⟨_, rfl⟩
      have Y0 : ¬ Y = 0 := fun h => hb (hY.trans h)
      have HYe := Lib.hid hY
      have Y1 : (Y == 0) = false := by simpa using Y0
      have Y2 : (Y != 0) = true := by simpa using Y0
      clear hY
      have HA := Lib.hid ha
      have HB := Lib.hid hb
      clear ha hb
      go_enter Try.func3, Try.ntmps3
      go_wp2_with fail
      refine (group_Public P Q G H a _ HA.out).mono ?_
      rintro e w1 ⟨rfl, hb1⟩
      have z1 := hb1.size
      simp at z1
      have k0 := kept hb1 (b := w.heap.size) (o := 0) (v := .int .i64 P) (by simp [go_sem]) (by simp [go_sem] <;> omega)
      have k1 := kept hb1 (b := w.heap.size) (o := 1) (v := .int .i64 Q) (by simp [go_sem]) (by simp [go_sem] <;> omega)
      have k2 := kept hb1 (b := w.heap.size) (o := 2) (v := .int .i64 G) (by simp [go_sem]) (by simp [go_sem] <;> omega)
      have k3 := kept hb1 (b := w.heap.size) (o := 3) (v := .int .i64 H) (by simp [go_sem]) (by simp [go_sem] <;> omega)
      go_wp2_with fail
      refine (group_Public_no P Q G H b _ HB.out).mono ?_
      rintro e w2 ⟨rfl, hb2⟩
      rw [HYe.out]
      have z2 := hb2.size
      replace k0 := kept hb2 k0 (by omega)
      replace k1 := kept hb2 k1 (by omega)
      replace k2 := kept hb2 k2 (by omega)
      replace k3 := kept hb2 k3 (by omega)
      go_wp2_with fail
      refine (keep_powers P Q G H _ 2 [a, b] _ ?r1 (by simp)).mono ?_
      case r1 => exact RowI.two (by simp [go_sem]) (by simp [go_sem]) (by simp [go_sem])
      rintro e w3 ⟨rfl, hb3⟩
      rw [HPW.out]
      replace hb3 := below_two ((Below.refl _ w2).alloc (Nat.le_refl _) _) hb3
      have z3 := hb3.size
      replace k0 := kept hb3 k0 (by omega)
      replace k1 := kept hb3 k1 (by omega)
      replace k2 := kept hb3 k2 (by omega)
      replace k3 := kept hb3 k3 (by omega)
      go_wp2
      go_ret
      exact ⟨ret_bool (by simp), below_two (below_two (below_two ((Below.refl _ _).alloc (Nat.le_refl _) _) hb1) hb2) hb3⟩
  · by_cases hb : shE P Q G H b G = 0
    · have HPW : Hid ((powsB Q [a, b] && (grpE P Q G H == 0)) = false) := Lib.hid (by
        cases e : (powsB Q [a, b] && (grpE P Q G H == 0))
        · rfl
        · simp [powsB] at e
          exact absurd ((shE_own e.2).2 e.1.1) ha)
      obtain ⟨X, hX⟩ : ∃ X, shE P Q G H a G = X := ⟨_, rfl⟩
      have X0 : ¬ X = 0 := fun h => ha (hX.trans h)
      have HXe := Lib.hid hX
      have X1 : (X == 0) = false := by simpa using X0
      have X2 : (X != 0) = true := by simpa using X0
      clear hX
      have HA := Lib.hid ha
      have HB := Lib.hid hb
      clear ha hb
      go_enter Try.func3, Try.ntmps3
      go_wp2_with fail
      refine (group_Public_no P Q G H a _ HA.out).mono ?_
      rintro e w1 ⟨rfl, hb1⟩
      rw [HXe.out]
      have z1 := hb1.size
      simp at z1
      have k0 := kept hb1 (b := w.heap.size) (o := 0) (v := .int .i64 P) (by simp [go_sem]) (by simp [go_sem] <;> omega)
      have k1 := kept hb1 (b := w.heap.size) (o := 1) (v := .int .i64 Q) (by simp [go_sem]) (by simp [go_sem] <;> omega)
      have k2 := kept hb1 (b := w.heap.size) (o := 2) (v := .int .i64 G) (by simp [go_sem]) (by simp [go_sem] <;> omega)
      have k3 := kept hb1 (b := w.heap.size) (o := 3) (v := .int .i64 H) (by simp [go_sem]) (by simp [go_sem] <;> omega)
      go_wp2_with fail
      refine (group_Public P Q G H b _ HB.out).mono ?_
      rintro e w2 ⟨rfl, hb2⟩
      have z2 := hb2.size
      replace k0 := kept hb2 k0 (by omega)
      replace k1 := kept hb2 k1 (by omega)
      replace k2 := kept hb2 k2 (by omega)
      replace k3 := kept hb2 k3 (by omega)
      go_wp2_with fail
      refine (keep_powers P Q G H _ 2 [a, b] _ ?r1 (by simp)).mono ?_
      case r1 => exact RowI.two (by simp [go_sem]) (by simp [go_sem]) (by simp [go_sem])
      rintro e w3 ⟨rfl, hb3⟩
      rw [HPW.out]
      replace hb3 := below_two ((Below.refl _ w2).alloc (Nat.le_refl _) _) hb3
      have z3 := hb3.size
      replace k0 := kept hb3 k0 (by omega)
      replace k1 := kept hb3 k1 (by omega)
      replace k2 := kept hb3 k2 (by omega)
      replace k3 := kept hb3 k3 (by omega)
      go_wp2
      go_ret
      exact ⟨ret_bool (by simp), below_two (below_two (below_two ((Below.refl _ _).alloc (Nat.le_refl _) _) hb1) hb2) hb3⟩
    · have HPW : Hid ((powsB Q [a, b] && (grpE P Q G H == 0)) = false) := Lib.hid (by
        cases e : (powsB Q [a, b] && (grpE P Q G H == 0))
        · rfl
        · simp [powsB] at e
          exact absurd ((shE_own e.2).2 e.1.1) ha)
      obtain ⟨X, hX⟩ : ∃ X, shE P Q G H a G = X := ⟨_, rfl⟩
      have X0 : ¬ X = 0 := fun h => ha (hX.trans h)
      have HXe := Lib.hid hX
      have X1 : (X == 0) = false := by simpa using X0
      have X2 : (X != 0) = true := by simpa using X0
      clear hX
      obtain ⟨Y, hY⟩ : ∃ Y, shE P Q G H b G = Y := ⟨_, rfl⟩
      have Y0 : ¬ Y = 0 := fun h => hb (hY.trans h)
      have HYe := Lib.hid hY
      have Y1 : (Y == 0) = false := by simpa using Y0
      have Y2 : (Y != 0) = true := by simpa using Y0
      clear hY
      have HA := Lib.hid ha
      have HB := Lib.hid hb
      clear ha hb
      go_enter Try.func3, Try.ntmps3
      go_wp2_with fail
      refine (group_Public_no P Q G H a _ HA.out).mono ?_
      rintro e w1 ⟨rfl, hb1⟩
      rw [HXe.out]
      have z1 := hb1.size
      simp at z1
      have k0 := kept hb1 (b := w.heap.size) (o := 0) (v := .int .i64 P) (by simp [go_sem]) (by simp [go_sem] <;> omega)
      have k1 := kept hb1 (b := w.heap.size) (o := 1) (v := .int .i64 Q) (by simp [go_sem]) (by simp [go_sem] <;> omega)
      have k2 := kept hb1 (b := w.heap.size) (o := 2) (v := .int .i64 G) (by simp [go_sem]) (by simp [go_sem] <;> omega)
      have k3 := kept hb1 (b := w.heap.size) (o := 3) (v := .int .i64 H) (by simp [go_sem]) (by simp [go_sem] <;> omega)
      go_wp2_with fail
      refine (group_Public_no P Q G H b _ HB.out).mono ?_
      rintro e w2 ⟨rfl, hb2⟩
      rw [HYe.out]
      have z2 := hb2.size
      replace k0 := kept hb2 k0 (by omega)
      replace k1 := kept hb2 k1 (by omega)
      replace k2 := kept hb2 k2 (by omega)
      replace k3 := kept hb2 k3 (by omega)
      go_wp2_with fail
      refine (keep_powers P Q G H _ 2 [a, b] _ ?r1 (by simp)).mono ?_
      case r1 => exact RowI.two (by simp [go_sem]) (by simp [go_sem]) (by simp [go_sem])
      rintro e w3 ⟨rfl, hb3⟩
      rw [HPW.out]
      replace hb3 := below_two ((Below.refl _ w2).alloc (Nat.le_refl _) _) hb3
      have z3 := hb3.size
      replace k0 := kept hb3 k0 (by omega)
      replace k1 := kept hb3 k1 (by omega)
      replace k2 := kept hb3 k2 (by omega)
      replace k3 := kept hb3 k3 (by omega)
      go_wp2
      go_ret
      exact ⟨ret_bool (by simp), below_two (below_two (below_two ((Below.refl _ _).alloc (Nat.le_refl _) _) hb1) hb2) hb3⟩
end Go.Proofs.Ytgmkmlfppblpfaa
