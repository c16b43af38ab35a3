/- Contracts of package curve: Check; of the reference: CurveCheck. -/
import Derived.Test.YtnheboamjfahaaaCurA
import Derived.Test.YtnheboamjfahaaaCur1
import Derived.Test.YtnheboamjfahaaaPrC
import Derived.Test.YtnheboamjfahaaaRefIs
import Derived.Test.YtnheboamjfahaaaPw
namespace Go.Proofs.Ytnheboamjfahaaa
open Go.RowKit
set_option linter.unusedVariables false
set_option linter.unusedSimpArgs false
/-- what is wrong with a curve -/
noncomputable def cvE (p a b : Int) : Int := if p < 5 ∨ 1009 < p ∨ a < 0 ∨ b < 0 ∨ p ≤ a ∨ p ≤ b then 2 else if prB p = false ∨ (4 * a * a * a + 27 * b * b) % p = 0 then 3 else 0
theorem cvE_out {p a b : Int} (h : p < 5 ∨ 1009 < p ∨ a < 0 ∨ b < 0 ∨ p ≤ a ∨ p ≤ b) : cvE p a b = 2 := if_pos h
theorem cvE_bad {p a b : Int} (h : ¬ (p < 5 ∨ 1009 < p ∨ a < 0 ∨ b < 0 ∨ p ≤ a ∨ p ≤ b)) (h2 : prB p = false ∨ (4 * a * a * a + 27 * b * b) % p = 0) : cvE p a b = 3 := by unfold cvE; rw [if_neg h, if_pos h2]
theorem cvE_ok {p a b : Int} (h : ¬ (p < 5 ∨ 1009 < p ∨ a < 0 ∨ b < 0 ∨ p ≤ a ∨ p ≤ b)) (h2 : ¬ (prB p = false ∨ (4 * a * a * a + 27 * b * b) % p = 0)) : cvE p a b = 0 := by unfold cvE; rw [if_neg h, if_neg h2]
set_option maxHeartbeats 1600000 in
theorem curve_Check_out (p a b : Int) (w : World) (h : p < 5 ∨ 1009 < p ∨ a < 0 ∨ b < 0 ∨ p ≤ a ∨ p ≤ b) :
    Calls Try.prog 19 #[.agg #[.int .i64 p, .int .i64 a, .int .i64 b]] w fun e w' => e = .returned (.int .i64 2) ∧ Below w.heap.size w w' := by
  by_cases h1 : p < 5
  · clear h
    go_enter Try.func19, Try.ntmps19
    go_wp2
    go_ret
    exact ⟨rfl, (Below.refl _ _).alloc (Nat.le_refl _) _⟩
  by_cases h2 : 1009 < p
  · clear h
    go_enter Try.func19, Try.ntmps19
    go_wp2
    go_ret
    exact ⟨rfl, (Below.refl _ _).alloc (Nat.le_refl _) _⟩
  by_cases h3 : a < 0 ∨ b < 0
  · clear h
    have h5 : ¬ (a < b ∧ 0 ≤ a) := by omega
    rcases Int.lt_trichotomy a b with h4 | h4 | h4
    · have h6 : a < 0 := by omega
      clear h3 h5
      go_enter Try.func19, Try.ntmps19
      go_wp2
      go_ret
      exact ⟨rfl, (Below.refl _ _).alloc (Nat.le_refl _) _⟩
    · subst h4
      have h6 : a < 0 := by omega
      clear h3 h5
      go_enter Try.func19, Try.ntmps19
      go_wp2
      go_ret
      exact ⟨rfl, (Below.refl _ _).alloc (Nat.le_refl _) _⟩
    · have h6 : b < 0 := by omega
      clear h3 h5
      go_enter Try.func19, Try.ntmps19
      go_wp2
      go_ret
      exact ⟨rfl, (Below.refl _ _).alloc (Nat.le_refl _) _⟩
  have a0 : 0 ≤ a := by omega
  have b0 : 0 ≤ b := by omega
  have h7 : p ≤ a ∨ p ≤ b := by omega
  clear h h3
  rcases Int.lt_trichotomy a b with h4 | h4 | h4
  · have h6 : p ≤ b := by omega
    clear h7
    go_enter Try.func19, Try.ntmps19
    go_wp2
    go_ret
    exact ⟨rfl, (Below.refl _ _).alloc (Nat.le_refl _) _⟩
  · subst h4
    have h6 : p ≤ a := by omega
    clear h7
    go_enter Try.func19, Try.ntmps19
    go_wp2
    go_ret
    exact ⟨rfl, (Below.refl _ _).alloc (Nat.le_refl _) _⟩
  · have h6 : p ≤ a := by omega
    clear h7
    go_enter Try.func19, Try.ntmps19
    go_wp2
    go_ret
    exact ⟨rfl, (Below.refl _ _).alloc (Nat.le_refl _) _⟩
theorem edv (a p : Int) : p ∣ a % p - a := ⟨-(a / p), by have := Int.mul_ediv_add_emod a p; grind⟩
theorem emod_eqd {x y p : Int} (h : p ∣ x - y) : x % p = y % p := Int.emod_eq_emod_iff_emod_sub_eq_zero.2 (Int.emod_eq_zero_of_dvd h)
theorem disc_go (p a b : Int) : (4 * a * a % p * a + 27 * b * b) % p = (4 * a * a * a + 27 * b * b) % p := by
  refine emod_eqd (dv1 (edv (4 * a * a) p) a ?_)
  grind
theorem disc_ref (p a b : Int) : (4 * pw a 3 p + 27 * pw b 2 p) % p = (4 * a * a * a + 27 * b * b) % p := by
  have h1 : p ∣ pw a 3 p - a ^ 3 := edv (a ^ 3) p
  have h2 : p ∣ pw b 2 p - b ^ 2 := edv (b ^ 2) p
  exact emod_eqd (dv2 h1 h2 4 27 (by grobner))
set_option maxHeartbeats 1600000 in
theorem curve_Check_in (p a b : Int) (w : World) (h1 : 5 ≤ p) (h2 : p ≤ 1009) (a0 : 0 ≤ a) (a1 : a < p) (b0 : 0 ≤ b) (b1 : b < p) :
    Calls Try.prog 19 #[.agg #[.int .i64 p, .int .i64 a, .int .i64 b]] w fun e w' => e = .returned (.int .i64 (cvE p a b)) ∧ Below w.heap.size w w' := by
  have HI := Lib.hid fun w => primes_Is_in p w (by omega) (by omega)
  cases hp : prB p with
  | false =>
    have HE := Lib.hid (cvE_bad (p := p) (a := a) (b := b) (by omega) (.inl hp))
    rw [hp] at HI
    clear hp
    rcases Int.lt_trichotomy a b with h4 | h4 | h4
    all_goals
      try subst h4
      go_enter Try.func19, Try.ntmps19
      go_wp2_with fail
      refine (HI.out _).mono ?_
      rintro e w1 ⟨rfl, hb1⟩
      have z1 := hb1.size
      simp at z1
      have k0 := kept hb1 (b := w.heap.size) (o := 0) (v := .int .i64 p) (by simp [go_sem]) (by simp [go_sem] <;> omega)
      go_wp2_with fail
      go_quiet (fail)
      go_wp2
      go_ret
      exact ⟨by rw [HE.out]; rfl, by first | exact below_drewN (below_two ((Below.refl _ _).alloc (Nat.le_refl _) _) hb1) _ | exact below_two ((Below.refl _ _).alloc (Nat.le_refl _) _) hb1⟩
  | true =>
    rw [hp] at HI
    have m1 := mul_lim (show 0 ≤ 4 * a by omega) (by omega) a0 (by omega)
    have m2 : IntKind.i64.wrap (4 * a * a) = 4 * a * a := IntWalk.i64_in _ (by omega)
    have m3 : (4 * a * a).tmod p = 4 * a * a % p := Int.tmod_eq_emod_of_nonneg (by omega)
    have y1 := Int.emod_nonneg (4 * a * a) (show p ≠ 0 by omega)
    have y2 := Int.emod_lt_of_pos (4 * a * a) (show (0 : Int) < p by omega)
    have HD := Lib.hid (disc_go p a b)
    obtain ⟨z, hz⟩ : ∃ z, 4 * a * a % p = z := ⟨_, rfl⟩
    rw [hz] at m3 y1 y2 HD
    clear hz
    have n1 := mul_lim y1 (by omega) a0 (by omega)
    have n2 : IntKind.i64.wrap (z * a) = z * a := IntWalk.i64_in _ (by omega)
    have o1 := mul_lim (show 0 ≤ 27 * b by omega) (by omega) b0 (by omega)
    have o2 : IntKind.i64.wrap (27 * b * b) = 27 * b * b := IntWalk.i64_in _ (by omega)
    have o3 : IntKind.i64.wrap (z * a + 27 * b * b) = z * a + 27 * b * b := IntWalk.i64_in _ (by omega)
    have o4 : (z * a + 27 * b * b).tmod p = (z * a + 27 * b * b) % p := Int.tmod_eq_emod_of_nonneg (by omega)
    have q1 : IntKind.i64.wrap (4 * a) = 4 * a := IntWalk.i64_in _ (by omega)
    have q2 : IntKind.i64.wrap (27 * b) = 27 * b := IntWalk.i64_in _ (by omega)
    have q3 : (p == 0) = false := by simp; omega
    have q4 : ¬ p = 0 := by omega
    obtain ⟨d, hd⟩ : ∃ d, (z * a + 27 * b * b) % p = d := ⟨_, rfl⟩
    rw [hd] at o4 HD
    clear hd
    by_cases e : d = 0
    · subst e
      have HE := Lib.hid (cvE_bad (p := p) (a := a) (b := b) (by omega) (.inr HD.out.symm))
      clear hp
      rcases Int.lt_trichotomy a b with h4 | h4 | h4
      all_goals
        try subst h4
        go_enter Try.func19, Try.ntmps19
        go_wp2_with fail
        refine (HI.out _).mono ?_
        rintro e w1 ⟨rfl, hb1⟩
        have z1 := hb1.size
        simp at z1
        have k0 := kept hb1 (b := w.heap.size) (o := 0) (v := .int .i64 p) (by simp [go_sem]) (by simp [go_sem] <;> omega)
        have k1 := kept hb1 (b := w.heap.size) (o := 1) (v := .int .i64 a) (by simp [go_sem]) (by simp [go_sem] <;> omega)
        first | have k2 := kept hb1 (b := w.heap.size) (o := 2) (v := .int .i64 b) (by simp [go_sem]) (by simp [go_sem] <;> omega) | have k2 := kept hb1 (b := w.heap.size) (o := 2) (v := .int .i64 a) (by simp [go_sem]) (by simp [go_sem] <;> omega)
        go_wp2_with fail
        go_quiet (fail)
        go_wp2
        go_ret
        exact ⟨by rw [HE.out]; rfl, by first | exact below_drewN (below_two ((Below.refl _ _).alloc (Nat.le_refl _) _) hb1) _ | exact below_two ((Below.refl _ _).alloc (Nat.le_refl _) _) hb1⟩
    · have HE := Lib.hid (cvE_ok (p := p) (a := a) (b := b) (by omega) (fun h => h.elim (fun h => by rw [hp] at h; cases h) (fun h => e (HD.out.trans h))))
      have e1 : (d == 0) = false := by simpa using e
      clear hp e
      rcases Int.lt_trichotomy a b with h4 | h4 | h4
      all_goals
        try subst h4
        go_enter Try.func19, Try.ntmps19
        go_wp2_with fail
        refine (HI.out _).mono ?_
        rintro e w1 ⟨rfl, hb1⟩
        have z1 := hb1.size
        simp at z1
        have k0 := kept hb1 (b := w.heap.size) (o := 0) (v := .int .i64 p) (by simp [go_sem]) (by simp [go_sem] <;> omega)
        have k1 := kept hb1 (b := w.heap.size) (o := 1) (v := .int .i64 a) (by simp [go_sem]) (by simp [go_sem] <;> omega)
        first | have k2 := kept hb1 (b := w.heap.size) (o := 2) (v := .int .i64 b) (by simp [go_sem]) (by simp [go_sem] <;> omega) | have k2 := kept hb1 (b := w.heap.size) (o := 2) (v := .int .i64 a) (by simp [go_sem]) (by simp [go_sem] <;> omega)
        go_wp2_with fail
        go_quiet (fail)
        go_wp2
        go_ret
        exact ⟨by rw [HE.out]; rfl, by first | exact below_drewN (below_two ((Below.refl _ _).alloc (Nat.le_refl _) _) hb1) _ | exact below_two ((Below.refl _ _).alloc (Nat.le_refl _) _) hb1⟩
theorem curve_Check (p a b : Int) (w : World) :
    Calls Try.prog 19 #[.agg #[.int .i64 p, .int .i64 a, .int .i64 b]] w fun e w' => e = .returned (.int .i64 (cvE p a b)) ∧ Below w.heap.size w w' := by
  by_cases h : p < 5 ∨ 1009 < p ∨ a < 0 ∨ b < 0 ∨ p ≤ a ∨ p ≤ b
  · rw [cvE_out h]; exact curve_Check_out p a b w h
  · exact curve_Check_in p a b w (by omega) (by omega) (by omega) (by omega) (by omega) (by omega)
set_option maxHeartbeats 1600000 in
theorem ref_CurveCheck_out (p a b : Int) (w : World) (h : p < 5 ∨ 1009 < p ∨ a < 0 ∨ b < 0 ∨ p ≤ a ∨ p ≤ b) :
    Calls Try.prog 15 #[.agg #[.int .i64 p, .int .i64 a, .int .i64 b]] w fun e w' => e = .returned (.int .i64 2) ∧ Below w.heap.size w w' := by
  by_cases h1 : p < 5
  · clear h
    go_enter Try.func15, Try.ntmps15
    go_wp2
    go_ret
    exact ⟨rfl, (Below.refl _ _).alloc (Nat.le_refl _) _⟩
  by_cases h2 : 1009 < p
  · clear h
    go_enter Try.func15, Try.ntmps15
    go_wp2
    go_ret
    exact ⟨rfl, (Below.refl _ _).alloc (Nat.le_refl _) _⟩
  by_cases h3 : a < 0
  · clear h
    go_enter Try.func15, Try.ntmps15
    go_wp2
    go_ret
    exact ⟨rfl, (Below.refl _ _).alloc (Nat.le_refl _) _⟩
  by_cases h4 : p ≤ a
  · clear h
    go_enter Try.func15, Try.ntmps15
    go_wp2
    go_ret
    exact ⟨rfl, (Below.refl _ _).alloc (Nat.le_refl _) _⟩
  by_cases h5 : b < 0
  · clear h
    go_enter Try.func15, Try.ntmps15
    go_wp2
    go_ret
    exact ⟨rfl, (Below.refl _ _).alloc (Nat.le_refl _) _⟩
  have h6 : p ≤ b := by omega
  clear h
  go_enter Try.func15, Try.ntmps15
  go_wp2
  go_ret
  exact ⟨rfl, (Below.refl _ _).alloc (Nat.le_refl _) _⟩
set_option maxHeartbeats 1600000 in
theorem ref_CurveCheck_in (p a b : Int) (w : World) (h1 : 5 ≤ p) (h2 : p ≤ 1009) (a0 : 0 ≤ a) (a1 : a < p) (b0 : 0 ≤ b) (b1 : b < p) :
    Calls Try.prog 15 #[.agg #[.int .i64 p, .int .i64 a, .int .i64 b]] w fun e w' => e = .returned (.int .i64 (cvE p a b)) ∧ Below w.heap.size w w' := by
  have HI := Lib.hid fun w => ref_Is p w (by omega)
  cases hp : prB p with
  | false =>
    have HE := Lib.hid (cvE_bad (p := p) (a := a) (b := b) (by omega) (.inl hp))
    rw [hp] at HI
    clear hp
    go_enter Try.func15, Try.ntmps15
    go_wp2_with fail
    go_quiet ((go_at_call 23; exact quiet_same ((HI.out _).mono fun _ _ h => h)))
    go_wp2
    go_ret
    exact ⟨by rw [HE.out]; rfl, by first | exact below_drewN ((Below.refl _ _).alloc (Nat.le_refl _) _) _ | exact (Below.refl _ _).alloc (Nat.le_refl _) _⟩
  | true =>
    rw [hp] at HI
    have HA := Lib.hid fun w => ref_Pow_n 3 a 3 p w (by omega) (by omega) (by omega) (by omega) (by omega)
    have HB := Lib.hid fun w => ref_Pow_n 2 b 2 p w (by omega) (by omega) (by omega) (by omega) (by omega)
    have HD := Lib.hid (disc_ref p a b)
    have x1 := pw_nonneg a 3 (show 1 ≤ p by omega)
    have x2 := pw_lt a 3 (show 1 ≤ p by omega)
    have y1 := pw_nonneg b 2 (show 1 ≤ p by omega)
    have y2 := pw_lt b 2 (show 1 ≤ p by omega)
    obtain ⟨x, hx⟩ : ∃ x, pw a 3 p = x := ⟨_, rfl⟩
    obtain ⟨y, hy⟩ : ∃ x, pw b 2 p = x := ⟨_, rfl⟩
    rw [hx] at HA HD x1 x2
    rw [hy] at HB HD y1 y2
    clear hx hy
    have m1 : IntKind.i64.wrap (4 * x) = 4 * x := IntWalk.i64_in _ (by omega)
    have m2 : IntKind.i64.wrap (27 * y) = 27 * y := IntWalk.i64_in _ (by omega)
    have m3 : IntKind.i64.wrap (4 * x + 27 * y) = 4 * x + 27 * y := IntWalk.i64_in _ (by omega)
    have HM := Lib.hid fun w => ref_Mod (4 * x + 27 * y) p w (by omega) (by omega)
    obtain ⟨d, hd⟩ : ∃ d, (4 * x + 27 * y) % p = d := ⟨_, rfl⟩
    rw [hd] at HM HD
    clear hd
    by_cases e : d = 0
    · subst e
      have HE := Lib.hid (cvE_bad (p := p) (a := a) (b := b) (by omega) (.inr HD.out.symm))
      clear hp
      go_enter Try.func15, Try.ntmps15
      go_wp2_with fail
      go_quiet ((first | (go_at_call 23; exact quiet_same ((HI.out _).mono fun _ _ h => h)) | (go_at_call 24; exact quiet_same ((HM.out _).mono fun _ _ h => h)) | (go_at_call 25; with_reducible exact quiet_same (HA.out _)) | (go_at_call 25; with_reducible exact quiet_same (HB.out _))))
      go_wp2
      go_ret
      exact ⟨by rw [HE.out]; rfl, by first | exact below_drewN ((Below.refl _ _).alloc (Nat.le_refl _) _) _ | exact (Below.refl _ _).alloc (Nat.le_refl _) _⟩
    · have HE := Lib.hid (cvE_ok (p := p) (a := a) (b := b) (by omega) (fun h => h.elim (fun h => by rw [hp] at h; cases h) (fun h => e (HD.out.trans h))))
      have e1 : (d == 0) = false := by simpa using e
      clear hp e
      go_enter Try.func15, Try.ntmps15
      go_wp2_with fail
      go_quiet ((first | (go_at_call 23; exact quiet_same ((HI.out _).mono fun _ _ h => h)) | (go_at_call 24; exact quiet_same ((HM.out _).mono fun _ _ h => h)) | (go_at_call 25; with_reducible exact quiet_same (HA.out _)) | (go_at_call 25; with_reducible exact quiet_same (HB.out _))))
      go_wp2
      go_ret
      exact ⟨by rw [HE.out]; rfl, by first | exact below_drewN ((Below.refl _ _).alloc (Nat.le_refl _) _) _ | exact (Below.refl _ _).alloc (Nat.le_refl _) _⟩
theorem ref_CurveCheck (p a b : Int) (w : World) :
    Calls Try.prog 15 #[.agg #[.int .i64 p, .int .i64 a, .int .i64 b]] w fun e w' => e = .returned (.int .i64 (cvE p a b)) ∧ Below w.heap.size w w' := by
  by_cases h : p < 5 ∨ 1009 < p ∨ a < 0 ∨ b < 0 ∨ p ≤ a ∨ p ≤ b
  · rw [cvE_out h]; exact ref_CurveCheck_out p a b w h
  · exact ref_CurveCheck_in p a b w (by omega) (by omega) (by omega) (by omega) (by omega) (by omega)
end Go.Proofs.Ytnheboamjfahaaa
