/- The walks of the statements on divisors: EuclidDivides, EuclidLcm, EuclidInverse, EuclidBezout. -/
import Derived.Test.YtfebomnblpamlaaEu2
import Derived.Test.YtfebomnblpamlaaRef
namespace Go.Proofs.Ytfebomnblpamlaa
open Go.RowKit
set_option linter.unusedVariables false
set_option linter.unusedSimpArgs false

theorem tmod_zero_of_dvd {g a : Int} (h : g ∣ a) : a.tmod g = 0 := Int.tmod_eq_zero_of_dvd h
theorem tmod_ne_of_not {g a : Int} (h : ¬ g ∣ a) : a.tmod g ≠ 0 := fun e => h (Int.dvd_of_tmod_eq_zero e)
theorem wf64 {a : Int} (h : (Lit.int .i64 a).wf = true) : -9223372036854775808 ≤ a ∧ a ≤ 9223372036854775807 := by
  simpa [Lit.wf, IntKind.min, IntKind.max, IntKind.signed, go_sem] using h
set_option maxHeartbeats 800000 in
theorem WEuclidDivides (a0 : Int) (a1 : Int) (a2 : Int) (w : World) (w0 : (Lit.int .i64 a0).wf = true) (w1 : (Lit.int .i64 a1).wf = true) (w2 : (Lit.int .i64 a2).wf = true) :
    Calls Try.prog 3 #[.int .i64 a0, .int .i64 a1, .int .i64 a2] w fun e w' => e = .returned (.bool true) ∧ Below w.heap.size w w' := by
  have b2 := wf64 w2
  clear w0 w1 w2
  by_cases hf : farB a0 = true ∨ farB a1 = true
  · have HF := Lib.hid hf
    by_cases hf0 : farB a0 = true
    · clear hf
      go_enter Try.func3, Try.ntmps3
      go_wp2_with fail
      refine (euclid_Gcd_far _ _ _ HF.out).mono ?_
      rintro e w1 ⟨rfl, hb⟩
      go_wp2_with (go_at_call 16; refine (keep_near _ _).mono ?_; rintro e w' ⟨rfl, rfl⟩)
      go_ret
      exact ⟨rfl, hb⟩
    · have h0 : farB a0 = false := by simpa using hf0
      have h1 : farB a1 = true := by rcases hf with h | h; exact absurd h hf0; exact h
      clear hf hf0
      go_enter Try.func3, Try.ntmps3
      go_wp2_with fail
      refine (euclid_Gcd_far _ _ _ HF.out).mono ?_
      rintro e w1 ⟨rfl, hb⟩
      go_wp2_with (go_at_call 16; refine (keep_near _ _).mono ?_; rintro e w' ⟨rfl, rfl⟩)
      go_ret
      exact ⟨rfl, hb⟩
  · have h0 : farB a0 = false := by cases h : farB a0 <;> simp_all
    have h1 : farB a1 = false := by cases h : farB a1 <;> simp_all
    clear hf
    obtain ⟨c1, c2⟩ := farB_false h0
    obtain ⟨c3, c4⟩ := farB_false h1
    have hda : (Int.gcd a0 a1 : Int) ∣ a0 := Int.gcd_dvd_left a0 a1
    have hdb : (Int.gcd a0 a1 : Int) ∣ a1 := Int.gcd_dvd_right a0 a1
    have hdd : a2 ∣ a0 → a2 ∣ a1 → a2 ∣ (Int.gcd a0 a1 : Int) := Int.dvd_coe_gcd
    have hz : (Int.gcd a0 a1 : Int) = 0 ↔ a0 = 0 ∧ a1 = 0 := by
      rw [Int.natCast_eq_zero]; exact Int.gcd_eq_zero_iff
    have hle : (Int.gcd a0 a1 : Int) ≤ 2147483648 := by
      by_cases e : a0 = 0
      · subst e
        have : Int.gcd 0 a1 = a1.natAbs := by simp
        omega
      · have := Int.gcd_le_natAbs_left a1 e
        omega
    have hnn : 0 ≤ (Int.gcd a0 a1 : Int) := by omega
    obtain ⟨g, hg⟩ : ∃ g : Int, (Int.gcd a0 a1 : Int) = g := ⟨_, rfl⟩
    rw [hg] at hda hdb hdd hz hle hnn
    have HG := Lib.hid hg
    clear hg
    by_cases hg0 : g = 0
    · obtain ⟨e0, e1⟩ := hz.1 hg0
      clear hz hdd hda hdb
      subst e0 e1
      go_enter Try.func3, Try.ntmps3
      go_wp2_with fail
      refine (euclid_Gcd _ _ _ c1 c2 c3 c4).mono ?_
      rintro e w1 ⟨rfl, hb⟩
      rw [HG.out]
      go_wp2_with (go_at_call 16; refine (keep_near _ _).mono ?_; rintro e w' ⟨rfl, rfl⟩)
      go_ret
      exact ⟨rfl, hb⟩
    · have hne : ¬ (a0 = 0 ∧ a1 = 0) := fun h => hg0 (hz.2 h)
      have hgp : 1 ≤ g := by omega
      have t1 := tmod_zero_of_dvd hda
      have t2 := tmod_zero_of_dvd hdb
      clear hz hda hdb
      have fin : ∀ P : Prop, (a0 = 0 → P) → (a0 ≠ 0 → a1 = 0 → False ∨ P) → (a0 ≠ 0 → a1 ≠ 0 → P) → P := fun P h1 h2 h3 => by
        by_cases e : a0 = 0
        · exact h1 e
        · by_cases e' : a1 = 0
          · exact (h2 e e').elim False.elim id
          · exact h3 e e'
      have main : ((a0 == 0) = true ∧ ((a1 == 0) = false)) ∨ ((a0 == 0) = false) := by
        by_cases e : a0 = 0
        · left; exact ⟨by simpa using e, by simpa using fun h => hne ⟨e, h⟩⟩
        · right; simpa using e
      have g1 : (g == 0) = false := by simpa using hg0
      have g2 : decide (g < 0) = false := by simpa using hnn
      clear fin hne
      by_cases hd0 : a2 = 0
      · subst hd0
        clear hdd
        rcases main with ⟨m0, m1⟩ | m1
        all_goals
          go_enter Try.func3, Try.ntmps3
          go_wp2_with fail
          refine (euclid_Gcd _ _ _ c1 c2 c3 c4).mono ?_
          rintro e w1 ⟨rfl, hb⟩
          rw [HG.out]
          go_wp2_with (go_at_call 16; refine (keep_near _ _).mono ?_; rintro e w' ⟨rfl, rfl⟩)
          go_ret
          exact ⟨rfl, hb⟩
      · have hcase : ((¬ a0.tmod a2 = 0) ∨ (a0.tmod a2 = 0 ∧ (¬ a1.tmod a2 = 0))) ∨ (a0.tmod a2 = 0 ∧ a1.tmod a2 = 0 ∧ (g % a2 == 0) = true) := by
          by_cases e : a2 ∣ a0
          · by_cases e' : a2 ∣ a1
            · right; exact ⟨tmod_zero_of_dvd e, tmod_zero_of_dvd e', beq_iff_eq.2 (Int.emod_eq_zero_of_dvd (hdd e e'))⟩
            · left; right; exact ⟨tmod_zero_of_dvd e, tmod_ne_of_not e'⟩
          · left; left; exact tmod_ne_of_not e
        clear hdd
        rcases main with ⟨m0, m1⟩ | m1 <;> rcases hcase with (hc1 | ⟨hc1, hc2⟩) | ⟨hc1, hc2, hc3⟩
        all_goals
          go_enter Try.func3, Try.ntmps3
          go_wp2_with fail
          refine (euclid_Gcd _ _ _ c1 c2 c3 c4).mono ?_
          rintro e w1 ⟨rfl, hb⟩
          rw [HG.out]
          go_wp2_with (go_at_call 16; refine (keep_near _ _).mono ?_; rintro e w' ⟨rfl, rfl⟩)
          go_ret
          first | exact ⟨rfl, hb⟩ | exact ⟨ret_bool (by assumption), hb⟩
theorem gcd_le_lim {a b : Int} (c1 : -2147483648 ≤ a) (c2 : a ≤ 2147483648) (c3 : -2147483648 ≤ b) (c4 : b ≤ 2147483648) : (Int.gcd a b : Int) ≤ 2147483648 := by
  by_cases e : a = 0
  · subst e
    have : Int.gcd 0 b = b.natAbs := by simp
    omega
  · have := Int.gcd_le_natAbs_left b e
    omega
set_option maxHeartbeats 800000 in
theorem WEuclidLcm (a0 : Int) (a1 : Int) (w : World) (w0 : (Lit.int .i64 a0).wf = true) (w1 : (Lit.int .i64 a1).wf = true) :
    Calls Try.prog 4 #[.int .i64 a0, .int .i64 a1] w fun e w' => e = .returned (.bool true) ∧ Below w.heap.size w w' := by
  clear w0 w1
  by_cases hf : farB a0 = true ∨ farB a1 = true
  · have HF := Lib.hid hf
    have hc : (farB a0 = true) ∨ (farB a0 = false ∧ farB a1 = true) := by
      cases h : farB a0 <;> simp_all
    clear hf
    rcases hc with h0 | ⟨h0, h1⟩
    all_goals
      go_enter Try.func4, Try.ntmps4
      go_wp2_with fail
      refine (euclid_Gcd_far _ _ _ HF.out).mono ?_
      rintro e w1 ⟨rfl, hb⟩
      go_wp2_with fail
      refine (euclid_Lcm_far _ _ _ HF.out).mono ?_
      rintro e w2 ⟨rfl, hb2⟩
      go_wp2_with (go_at_call 16; refine (keep_near _ _).mono ?_; rintro e w' ⟨rfl, rfl⟩)
      go_ret
      exact ⟨rfl, hb.trans (hb2.mono hb.size)⟩
  · have h0 : farB a0 = false := by cases h : farB a0 <;> simp_all
    have h1 : farB a1 = false := by cases h : farB a1 <;> simp_all
    clear hf
    obtain ⟨c1, c2⟩ := farB_false h0
    obtain ⟨c3, c4⟩ := farB_false h1
    have hle := gcd_le_lim c1 c2 c3 c4
    have hl : (Int.gcd a0 a1 : Int) ≠ 0 → (a0.natAbs : Int) / (Int.gcd a0 a1 : Int) * (a1.natAbs : Int) = (Int.lcm a0 a1 : Int) := fun h => by
      have := M.lcm_eq (a := a0) (b := a1) (by omega)
      rw [← this, Int.natAbs_mul, Int.natAbs_tdiv]
      rfl
    have hll : (Int.lcm a0 a1 : Int) ≤ 4611686018427387904 := by
      by_cases e : Int.gcd a0 a1 = 0
      · have := Int.gcd_eq_zero_iff.1 e
        simp [this.1, this.2]
      · have h2 := M.lcm_eq e
        have := (M.lcm_facts c1 c2 c3 c4).2
        omega
    have hq : (a0.natAbs : Int) / (Int.gcd a0 a1 : Int) ≤ 2147483648 := by
      have : a0.natAbs / Int.gcd a0 a1 ≤ a0.natAbs := Nat.div_le_self _ _
      have e : (a0.natAbs : Int) / (Int.gcd a0 a1 : Int) = ((a0.natAbs / Int.gcd a0 a1 : Nat) : Int) := rfl
      omega
    have hq0 : 0 ≤ (a0.natAbs : Int) / (Int.gcd a0 a1 : Int) := Int.ediv_nonneg (by omega) (by omega)
    have hz : (Int.gcd a0 a1 : Int) = 0 → a0 = 0 ∧ a1 = 0 ∧ (Int.lcm a0 a1 : Int) = 0 := fun h => by
      have := Int.gcd_eq_zero_iff.1 (show Int.gcd a0 a1 = 0 by omega)
      refine ⟨this.1, this.2, ?_⟩
      rw [this.1, this.2]; simp
    have hnn : 0 ≤ (Int.gcd a0 a1 : Int) := by omega
    have hln : 0 ≤ (Int.lcm a0 a1 : Int) := by omega
    obtain ⟨g, hg⟩ : ∃ g : Int, (Int.gcd a0 a1 : Int) = g := ⟨_, rfl⟩
    obtain ⟨l, hll'⟩ : ∃ l : Int, (Int.lcm a0 a1 : Int) = l := ⟨_, rfl⟩
    rw [hg] at hle hl hq hq0 hz hnn
    rw [hll'] at hl hll hz hln
    have HG := Lib.hid hg
    have HL := Lib.hid hll'
    clear hg hll'
    by_cases hg0 : g = 0
    · obtain ⟨e0, e1, e2⟩ := hz hg0
      clear hz hl hq hq0
      subst e0 e1 e2 hg0
      go_enter Try.func4, Try.ntmps4
      go_wp2_with fail
      refine (euclid_Gcd _ _ _ c1 c2 c3 c4).mono ?_
      rintro e w1 ⟨rfl, hb⟩
      rw [HG.out]
      go_wp2_with fail
      refine (euclid_Lcm _ _ _ c1 c2 c3 c4).mono ?_
      rintro e w2 ⟨rfl, hb2⟩
      rw [HL.out]
      go_wp2_with (go_at_call 16; refine (keep_near _ _).mono ?_; rintro e w' ⟨rfl, rfl⟩)
      go_ret
      exact ⟨rfl, hb.trans (hb2.mono hb.size)⟩
    · have hl2 := hl hg0
      have g1 : (g == 0) = false := by simpa using hg0
      have hgp : 1 ≤ g := by omega
      obtain ⟨q, hqq⟩ : ∃ q, (a0.natAbs : Int) / g = q := ⟨_, rfl⟩
      rw [hqq] at hl2 hq hq0
      have HL2 := Lib.hid hl2
      have hr1 : -4611686018427387904 ≤ q * (a1.natAbs : Int) := by omega
      have hr2 : q * (a1.natAbs : Int) ≤ 4611686018427387904 := by omega
      clear hz hl hl2
      go_enter Try.func4, Try.ntmps4
      go_wp2_with fail
      refine (euclid_Gcd _ _ _ c1 c2 c3 c4).mono ?_
      rintro e w1 ⟨rfl, hb⟩
      rw [HG.out]
      go_wp2_with fail
      refine (euclid_Lcm _ _ _ c1 c2 c3 c4).mono ?_
      rintro e w2 ⟨rfl, hb2⟩
      rw [HL.out]
      go_wp2_with (first | (go_at_call 16; refine (keep_near _ _).mono ?_; rintro e w' ⟨rfl, rfl⟩))
      go_quiet ((go_at_call 18; exact quiet_same (ref_Abs _ _ (by omega) (by omega))))
      go_wp2
      go_ret
      exact ⟨ret_bool (by rw [HL2.out]; simp), below_drewN (hb.trans (hb2.mono hb.size)) _⟩
theorem euclid_Bezout_far (a b : Int) (w : World) (h : farB a = true ∨ farB b = true) :
    Calls Try.prog 22 #[.int .i64 a, .int .i64 b] w fun e w' => e = .returned (.tuple #[.int .i64 0, .int .i64 0, .int .i64 0, .int .i64 2]) ∧ Below w.heap.size w w' := by
  have hf : [a, b].any farB = true := by rcases h with h | h <;> simp [h]
  clear h
  go_enter Try.func22, Try.ntmps22
  go_wp2_with fail
  refine (euclid_far [a, b] _ _ (by simp) ?_).mono ?_
  · intro k hk
    match k, hk with
    | 0, _ => simp
    | 1, _ => simp
  rintro e w' ⟨rfl, rfl⟩
  go_wp2
  refine bodyPost_ret (v := .tuple #[.int .i64 0, .int .i64 0, .int .i64 0, .int .i64 2]) (by simp [results, Try.results22, go_sem]) rfl ?_
  exact ⟨rfl, (Below.refl _ _).alloc (Nat.le_refl _) _⟩
set_option maxHeartbeats 800000 in
theorem WEuclidBezout (a0 : Int) (a1 : Int) (w : World) (w0 : (Lit.int .i64 a0).wf = true) (w1 : (Lit.int .i64 a1).wf = true) :
    Calls Try.prog 6 #[.int .i64 a0, .int .i64 a1] w fun e w' => e = .returned (.bool true) ∧ Below w.heap.size w w' := by
  clear w0 w1
  by_cases hf : farB a0 = true ∨ farB a1 = true
  · have HF := Lib.hid hf
    have hc : (farB a0 = true) ∨ (farB a0 = false ∧ farB a1 = true) := by
      cases h : farB a0 <;> simp_all
    clear hf
    rcases hc with h0 | ⟨h0, h1⟩
    all_goals
      go_enter Try.func6, Try.ntmps6
      go_wp2_with fail
      refine (euclid_Gcd_far _ _ _ HF.out).mono ?_
      rintro e w1 ⟨rfl, hb⟩
      go_wp2_with fail
      refine (euclid_Bezout_far _ _ _ HF.out).mono ?_
      rintro e w2 ⟨rfl, hb2⟩
      go_wp2_with (go_at_call 16; refine (keep_near _ _).mono ?_; rintro e w' ⟨rfl, rfl⟩)
      go_ret
      exact ⟨rfl, hb.trans (hb2.mono hb.size)⟩
  · have h0 : farB a0 = false := by cases h : farB a0 <;> simp_all
    have h1 : farB a1 = false := by cases h : farB a1 <;> simp_all
    clear hf
    obtain ⟨c1, c2⟩ := farB_false h0
    obtain ⟨c3, c4⟩ := farB_false h1
    have hz : (Int.gcd a0 a1 : Int) = 0 → a0 = 0 ∧ a1 = 0 := fun h => Int.gcd_eq_zero_iff.1 (by omega)
    have hnn : 0 ≤ (Int.gcd a0 a1 : Int) := by omega
    have hle := gcd_le_lim c1 c2 c3 c4
    obtain ⟨g, hg⟩ : ∃ g : Int, (Int.gcd a0 a1 : Int) = g := ⟨_, rfl⟩
    rw [hg] at hz hnn hle
    have HG := Lib.hid hg
    clear hg
    have hcase : (0 < g) ∨ (g = 0 ∧ a0 = 0 ∧ a1 = 0) := by
      by_cases e : g = 0
      · exact .inr ⟨e, hz e⟩
      · left; omega
    clear hz
    rcases hcase with hp | ⟨rfl, rfl, rfl⟩
    · go_enter Try.func6, Try.ntmps6
      go_wp2_with fail
      refine (euclid_Gcd _ _ _ c1 c2 c3 c4).mono ?_
      rintro e w1 ⟨rfl, hb⟩
      rw [HG.out]
      go_wp2_with fail
      refine (euclid_Bezout _ _ _ c1 c2 c3 c4).mono ?_
      rintro e w2 ⟨x, y, rfl, hxy, _, hx, hb2⟩
      rw [HG.out] at hxy ⊢
      have HX := Lib.hid hxy
      have p1 := Nat.mul_le_mul hx (show a0.natAbs ≤ 2147483648 by omega)
      rw [← Int.natAbs_mul] at p1
      have p2 : -4611686018427387904 ≤ x * a0 := by omega
      have p3 : x * a0 ≤ 4611686018427387904 := by omega
      have p4 : -4611686030000000000 ≤ y * a1 := by omega
      have p5 : y * a1 ≤ 4611686030000000000 := by omega
      have p7 : 0 ≤ x * a0 + y * a1 := by omega
      have p8 : x * a0 + y * a1 ≤ 2147483648 := by omega
      have p6 : (x * a0 + y * a1 == g) = true := by rw [hxy]; simp
      clear hxy p1
      go_wp2_with (first | (go_at_call 16; refine (keep_near _ _).mono ?_; rintro e w' ⟨rfl, rfl⟩))
      go_ret
      exact ⟨rfl, (hb.trans (hb2.mono hb.size))⟩
    · go_enter Try.func6, Try.ntmps6
      go_wp2_with fail
      refine (euclid_Gcd _ _ _ c1 c2 c3 c4).mono ?_
      rintro e w1 ⟨rfl, hb⟩
      rw [HG.out]
      go_wp2_with fail
      refine (euclid_Bezout _ _ _ c1 c2 c3 c4).mono ?_
      rintro e w2 ⟨x, y, rfl, hxy, _, hx, hb2⟩
      rw [HG.out] at hxy ⊢
      clear hxy
      go_wp2_with (first | (go_at_call 16; refine (keep_near _ _).mono ?_; rintro e w' ⟨rfl, rfl⟩))
      go_ret
      exact ⟨rfl, (hb.trans (hb2.mono hb.size))⟩
/-- an inverse of an inverse -/
theorem inv_inv {a m i j : Int} (hm : 0 < m) (h1 : m ∣ i * a - 1) (h2 : m ∣ j * i - 1) (hj : 0 ≤ j) (hj2 : j < m) : j = a % m := by
  have h : m ∣ j - a := by
    obtain ⟨u, hu⟩ := h1
    obtain ⟨v, hv⟩ := h2
    exact ⟨v * a - j * u, by
      have e1 : j * (i * a - 1) = j * (m * u) := by rw [hu]
      have e2 : (j * i - 1) * a = m * v * a := by rw [hv]
      grind⟩
  have := Int.emod_eq_emod_iff_emod_sub_eq_zero.2 (Int.emod_eq_zero_of_dvd h)
  rw [← this, Int.emod_eq_of_lt hj hj2]
theorem gcd_inv {a m i : Int} (h : m ∣ i * a - 1) : Int.gcd i m = 1 := by
  rw [Int.gcd_eq_one_iff]
  intro c h1 h2
  have h3 := Int.dvd_trans h2 h
  have h4 : c ∣ i * a := Int.dvd_mul_of_dvd_left h1
  have := Int.dvd_sub h4 h3
  have e : i * a - (i * a - 1) = 1 := by omega
  rwa [e] at this
set_option maxHeartbeats 800000 in
theorem WEuclidInverse (a0 : Int) (a1 : Int) (w : World) (w0 : (Lit.int .i64 a0).wf = true) (w1 : (Lit.int .i64 a1).wf = true) :
    Calls Try.prog 5 #[.int .i64 a0, .int .i64 a1] w fun e w' => e = .returned (.bool true) ∧ Below w.heap.size w w' := by
  have b1 := wf64 w1
  clear w0 w1
  by_cases hf : farB a0 = true ∨ modB a1 = false
  · have HF : Hid (farB a0 = true ∨ a1 < 1 ∨ 1048576 < a1) := by rcases hf with h | h; exact .inl h; exact .inr (modB_false h)
    have hc : (farB a0 = true) ∨ (farB a0 = false ∧ modB a1 = false) := by
      cases h : farB a0 <;> simp_all
    clear hf
    rcases hc with h0 | ⟨h0, h1⟩
    all_goals
      go_enter Try.func5, Try.ntmps5
      go_wp2_with fail
      refine (euclid_Inverse_out _ _ _ HF.out b1.1 b1.2).mono ?_
      rintro e w1 ⟨rfl, hb⟩
      go_wp2_with (first | (go_at_call 16; refine (keep_near _ _).mono ?_; rintro e w' ⟨rfl, rfl⟩) | (go_at_call 20; refine (keep_modulus _ _).mono ?_; rintro e w' ⟨rfl, rfl⟩))
      go_ret
      exact ⟨rfl, hb⟩
  · have h0 : farB a0 = false := by cases h : farB a0 <;> simp_all
    have h1 : modB a1 = true := by cases h : modB a1 <;> simp_all
    clear hf
    obtain ⟨c1, c2⟩ := farB_false h0
    obtain ⟨c3, c4⟩ := modB_true h1
    have hz : (Int.gcd a0 a1 : Int) = 0 → False := fun h => by
      have := (Int.gcd_eq_zero_iff.1 (show Int.gcd a0 a1 = 0 by omega)).2; omega
    have hnn : 0 ≤ (Int.gcd a0 a1 : Int) := by omega
    obtain ⟨g, hg⟩ : ∃ g : Int, (Int.gcd a0 a1 : Int) = g := ⟨_, rfl⟩
    rw [hg] at hz hnn
    have hgp : 1 ≤ g := by
      by_cases e : g = 0
      · exact (hz e).elim
      · omega
    have HG := Lib.hid hg
    clear hg hz
    go_enter Try.func5, Try.ntmps5
    go_wp2_with fail
    refine (euclid_Inverse _ _ _ c1 c2 c3 c4).mono ?_
    rintro e w1 ⟨(⟨hg1, i, rfl, hi0, hi1, hdv⟩ | ⟨hg1, rfl⟩), hb⟩
    · have e1 : g = 1 := by have := HG.out; omega
      have HD := Lib.hid hdv
      clear hdv hg1
      subst e1
      go_wp2_with (first | (go_at_call 16; refine (keep_near _ _).mono ?_; rintro e w' ⟨rfl, rfl⟩) | (go_at_call 20; refine (keep_modulus _ _).mono ?_; rintro e w' ⟨rfl, rfl⟩))
      refine (euclid_Gcd _ _ _ c1 c2 (by omega) (by omega)).mono ?_
      rintro e w2 ⟨rfl, hb2⟩
      rw [HG.out]
      go_wp2_with fail
      refine (euclid_Inverse _ _ _ (by omega) (by omega) c3 c4).mono ?_
      rintro e w3 ⟨(⟨hg2, j, rfl, hj0, hj1, hdv2⟩ | ⟨hg2, rfl⟩), hb3⟩
      · have HJ := Lib.hid (inv_inv (by omega) HD.out hdv2 hj0 hj1)
        clear hdv2 hg2
        go_wp2_with (go_at_call 21; refine (ref_Mod _ _ _ c3 (by omega)).mono ?_; rintro e w' ⟨rfl, rfl⟩)
        go_ret
        exact ⟨ret_bool (by rw [← HJ.out]; simp), (hb.trans (hb2.mono hb.size)).trans (hb3.mono (by have := hb.size; have := hb2.size; omega))⟩
      · exact absurd (gcd_inv HD.out) hg2
    · have e1 : 1 < g := by have := HG.out; omega
      clear hg1
      have g1 : (g == 1) = false := by simp; omega
      go_wp2_with (first | (go_at_call 16; refine (keep_near _ _).mono ?_; rintro e w' ⟨rfl, rfl⟩) | (go_at_call 20; refine (keep_modulus _ _).mono ?_; rintro e w' ⟨rfl, rfl⟩))
      refine (euclid_Gcd _ _ _ c1 c2 (by omega) (by omega)).mono ?_
      rintro e w2 ⟨rfl, hb2⟩
      rw [HG.out]
      go_wp2
      go_ret
      exact ⟨ret_bool (by first | rfl | simp [e1]), hb.trans (hb2.mono hb.size)⟩
end Go.Proofs.Ytfebomnblpamlaa
