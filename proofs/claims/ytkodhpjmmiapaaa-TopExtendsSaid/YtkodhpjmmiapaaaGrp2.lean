/- Contracts of package group: Check. -/
import Derived.Test.YtkodhpjmmiapaaaGrp1
namespace Go.Proofs.Ytkodhpjmmiapaaa
open Go.RowKit
set_option linter.unusedVariables false
set_option linter.unusedSimpArgs false
set_option maxHeartbeats 20000000 in
theorem group_Check (P Q G H : Int) (w : World) :
    Calls Try.prog 8 #[.agg #[.int .i64 P, .int .i64 Q, .int .i64 G, .int .i64 H]] w fun e w' => e = .returned (.int .i64 (grpE P Q G H)) ∧ Below w.heap.size w w' := by
  by_cases hg : GIn P Q G H
  · have HG := Lib.hid hg
    have hmf : ∀ (fn : Fn) (first cap : Array Value) (w : World), (Instr.makeFunc fn first cap).run Try.prog w = .ok (.func fn first cap) w := fun _ _ _ _ => rfl
    obtain ⟨g1, g2, g3, g4, g5, g6, g7, g8⟩ := hg
    have HB := Lib.hid (fun h1 => grpE_bad HG.out h1)
    have HO := Lib.hid (fun h1 h2 h3 h4 h5 => grpE_ok HG.out h1 h2 h3 h4 h5)
    obtain ⟨e, he⟩ : ∃ e, e = grpE P Q G H := ⟨_, rfl⟩
    rw [← he] at HB HO ⊢
    clear he
    have f1 : Int.tmod (P - 1) Q = (P - 1) % Q := Int.tmod_eq_emod_of_nonneg (by omega)
    have f3 : (Q == 0) = false := by simp; omega
    have f4 : ¬ Q = 0 := by omega
    have d1 : decide (P < 3) = false := decide_eq_false (by omega)
    have d2 : decide (1048576 < P) = false := decide_eq_false (by omega)
    have d3 : decide (2 ≤ Q) = true := decide_eq_true (by omega)
    have d4 : decide (Q < P) = true := decide_eq_true (by omega)
    have d5 : decide (2 ≤ G) = true := decide_eq_true (by omega)
    have d6 : decide (G < P) = true := decide_eq_true (by omega)
    have d7 : decide (2 ≤ H) = true := decide_eq_true (by omega)
    have d8 : decide (H < P) = true := decide_eq_true (by omega)
    obtain ⟨x, hx⟩ : ∃ x, memB P Q G = x := ⟨_, rfl⟩
    obtain ⟨y, hy⟩ : ∃ y, memB P Q H = y := ⟨_, rfl⟩
    rw [hx, hy] at HB HO
    have HX := Lib.hid hx
    have HY := Lib.hid hy
    obtain ⟨p, hp⟩ : ∃ p, prB P = p := ⟨_, rfl⟩
    obtain ⟨q, hq⟩ : ∃ q, prB Q = q := ⟨_, rfl⟩
    rw [hp, hq] at HB HO
    have HP := Lib.hid hp
    have HQ := Lib.hid hq
    obtain ⟨r, hr⟩ : ∃ r, (P - 1) % Q = r := ⟨_, rfl⟩
    rw [hr] at f1 HB HO
    clear hx hy hp hq hr
    go_enter Try.func8, Try.ntmps8
    go_wp2_with (go_at_call 16; go_in)
    refine (primes_Is_in P _ (by omega) (by omega)).mono ?_
    rintro e w1 ⟨rfl, hb1⟩
    rw [HP.out]
    have z1 := hb1.size
    simp at z1
    have k0 := kept hb1 (b := w.heap.size) (o := 0) (v := .int .i64 P) (by simp) (by simp)
    have k1 := kept hb1 (b := w.heap.size) (o := 1) (v := .int .i64 Q) (by simp) (by simp)
    have k2 := kept hb1 (b := w.heap.size) (o := 2) (v := .int .i64 G) (by simp) (by simp)
    have k3 := kept hb1 (b := w.heap.size) (o := 3) (v := .int .i64 H) (by simp) (by simp)
    go_wp2_with fail
    refine (primes_Is_in Q _ (by omega) (by omega)).mono ?_
    rintro e w2 ⟨rfl, hb2⟩
    rw [HQ.out]
    have z2 := hb2.size
    replace k0 := kept hb2 k0 (by omega)
    replace k1 := kept hb2 k1 (by omega)
    replace k2 := kept hb2 k2 (by omega)
    replace k3 := kept hb2 k3 (by omega)
    clear d1 d2 d3 d4 d5 d6 d7 d8
    rcases p with _ | _
    · have HF := Lib.hid (HB.out (.inl rfl))
      clear HB HO
      go_wp2
      go_ret
      exact ⟨ret_int HF.out.symm, below_two (below_two ((Below.refl _ _).alloc (Nat.le_refl _) _) hb1) hb2⟩
    rcases q with _ | _
    · have HF := Lib.hid (HB.out (.inr (.inl rfl)))
      clear HB HO
      go_wp2
      go_ret
      exact ⟨ret_int HF.out.symm, below_two (below_two ((Below.refl _ _).alloc (Nat.le_refl _) _) hb1) hb2⟩
    by_cases hr : r = 0
    · subst hr
      rcases x with _ | _
      · have HF := Lib.hid (HB.out (.inr (.inr (.inr (.inl rfl)))))
        clear HB HO
        go_wp2_with fail
        refine (group_Member P Q G H G _ (by omega) g2 (by omega) (by omega)).mono ?_
        rintro e w3 ⟨rfl, hb3⟩
        rw [HX.out]
        have z3 := hb3.size
        go_wp2
        go_ret
        exact ⟨ret_int HF.out.symm, below_two (below_two (below_two ((Below.refl _ _).alloc (Nat.le_refl _) _) hb1) hb2) hb3⟩
      · rcases y with _ | _
        · have HF := Lib.hid (HB.out (.inr (.inr (.inr (.inr rfl)))))
          clear HB HO
          go_wp2_with fail
          refine (group_Member P Q G H G _ (by omega) g2 (by omega) (by omega)).mono ?_
          rintro e w3 ⟨rfl, hb3⟩
          rw [HX.out]
          have z3 := hb3.size
          replace k0 := kept hb3 k0 (by omega)
          replace k1 := kept hb3 k1 (by omega)
          replace k2 := kept hb3 k2 (by omega)
          replace k3 := kept hb3 k3 (by omega)
          go_wp2_with fail
          refine (group_Member P Q G H H _ (by omega) g2 (by omega) (by omega)).mono ?_
          rintro e w4 ⟨rfl, hb4⟩
          rw [HY.out]
          have z4 := hb4.size
          go_wp2
          go_ret
          exact ⟨ret_int HF.out.symm, below_two (below_two (below_two (below_two ((Below.refl _ _).alloc (Nat.le_refl _) _) hb1) hb2) hb3) hb4⟩
        · have HF := Lib.hid (HO.out rfl rfl rfl rfl rfl)
          clear HB HO
          go_wp2_with fail
          refine (group_Member P Q G H G _ (by omega) g2 (by omega) (by omega)).mono ?_
          rintro e w3 ⟨rfl, hb3⟩
          rw [HX.out]
          have z3 := hb3.size
          replace k0 := kept hb3 k0 (by omega)
          replace k1 := kept hb3 k1 (by omega)
          replace k2 := kept hb3 k2 (by omega)
          replace k3 := kept hb3 k3 (by omega)
          go_wp2_with fail
          refine (group_Member P Q G H H _ (by omega) g2 (by omega) (by omega)).mono ?_
          rintro e w4 ⟨rfl, hb4⟩
          rw [HY.out]
          have z4 := hb4.size
          go_wp2
          go_ret
          exact ⟨ret_int HF.out.symm, below_two (below_two (below_two (below_two ((Below.refl _ _).alloc (Nat.le_refl _) _) hb1) hb2) hb3) hb4⟩
    · have HF := Lib.hid (HB.out (.inr (.inr (.inl hr))))
      clear HB HO
      go_wp2
      go_ret
      exact ⟨ret_int HF.out.symm, below_two (below_two ((Below.refl _ _).alloc (Nat.le_refl _) _) hb1) hb2⟩
  · rw [grpE_out hg]
    exact group_Check_out P Q G H w hg
end Go.Proofs.Ytkodhpjmmiapaaa
