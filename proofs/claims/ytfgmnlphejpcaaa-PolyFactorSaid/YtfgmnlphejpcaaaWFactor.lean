/- The walk of PolyFactor. -/
import Derived.Test.YtfgmnlphejpcaaaDiv
import Derived.Test.YtfgmnlphejpcaaaAt
namespace Go.Proofs.Ytfgmnlphejpcaaa
open Go.RowKit
set_option linter.unusedVariables false
set_option linter.unusedSimpArgs false
theorem rowL_two (w : World) (u v : Int) : RowL (w.alloc (.cells #[.int .i64 u, .int .i64 v] 2)) (some ⟨w.heap.size, 0, none⟩) 2 [u, v] := by
  refine ⟨fun e => (by cases e), fun ad e j x hx => ?_, by simp⟩
  cases e
  rw [add_at]
  match j with
  | 0 => simp [inV] at hx; subst hx; simp [go_sem]
  | 1 => simp [inV] at hx; subst hx; simp [go_sem]
  | j + 2 => simp [inV] at hx
theorem good_one {p : Int} {xs : List Int} (g : Good p xs) : Good p [1] := ⟨g.pr, by simp, fun x hx => by have := g.prime; simp at hx; omega, by simp⟩
theorem good_two {p c : Int} {xs : List Int} (g : Good p xs) (h1 : 0 ≤ c) (h2 : c < p) : Good p [c, 1] := ⟨g.pr, by simp, fun x hx => by have := g.prime; simp at hx; omega, by simp⟩
theorem factor_two {p x : Int} {a q r : List Int} (g : Good p a) (h : DivInv p a [-x % p, 1] q r) (hr : r.length < 2) :
    (r.length = 0 ∧ valL p a (x % p) = 0) ∨ (r.length = 1 ∧ r[0]? = some (valL p a (x % p)) ∧ valL p a (x % p) ≠ 0) := by
  rcases factor_law g h hr with ⟨rfl, e⟩ | ⟨y, rfl, h1, _, _, e⟩
  · exact .inl ⟨rfl, e⟩
  · exact .inr ⟨rfl, by rw [e]; rfl, by rw [e]; exact h1⟩
theorem val_rng {p : Int} (hp : 1 ≤ p) (a : List Int) (x : Int) : 0 ≤ valL p a x ∧ valL p a x < p := horT_rng hp _
set_option maxRecDepth 100000 in
set_option maxHeartbeats 6400000 in
theorem WPolyFactor (a0 : Int) (a1 : Option Addr) (len1 cap1 : Nat) (z1 : List Int) (a2 : Int) (w : World) (w0 : (Lit.int .i64 a0).wf = true) (w1 : IsRow .i64 w a1 len1 cap1 z1) (w2 : (Lit.int .i64 a2).wf = true) :
    Calls Try.prog 6 #[.int .i64 a0, .slice a1 len1 cap1, .int .i64 a2] w fun e w' => e = .returned (.bool true) ∧ Below w.heap.size w w' := by
  obtain ⟨xs, e1, h1, _, m1⟩ := w1.longs
  clear w0 w1 w2 z1
  unfold maxLen at m1
  have HR := Lib.hid h1
  have E1 := Lib.hid e1
  by_cases h0 : polyE a0 xs = 0
  · by_cases hf : farB a2 = true
    · have HAt := Lib.hid fun w' (h : RowL w' a1 cap1 xs) => poly_At_err a0 a2 a1 cap1 xs w' h (by rw [e1]; unfold maxLen; omega) (.inr (farB_true hf))
      have HN := Lib.hid fun w => keep_near a2 w
      rw [hf] at HN
      have H0 := Lib.hid h0
      rw [e1] at HAt
      clear e1 h0 h1 hf
      go_enter Try.func6, Try.ntmps6
      go_wp2_with fail
      refine (sound_one' true E1.out (by omega) HR.out (by rw [H0.out]; rfl)).mono ?_
      rintro e w1 ⟨rfl, hb1⟩
      go_wp2_with fail
      refine (HN.out _).mono ?_
      rintro e w2 ⟨rfl, rfl⟩
      go_wp2_with fail
      refine (HAt.out _ (HR.out.below hb1 (Nat.le_refl _))).mono ?_
      rintro e w3 ⟨⟨t, ht, rfl⟩, hb2⟩
      have q1 : (t == 0) = false := by simpa using ht
      have q2 : (t != 0) = true := by simpa using ht
      clear ht
      go_wp2
      go_ret
      exact ⟨rfl, below_two hb1 hb2⟩
    · have hf2 : farB a2 = false := by simpa using hf
      have hr := farB_false hf2
      have g := polyE_zero.1 h0
      have hp := g.prime
      have HAt := Lib.hid fun w' (h : RowL w' a1 cap1 xs) => poly_At a0 a2 a1 cap1 xs w' g h hr.1 hr.2
      have HN := Lib.hid fun w => keep_near a2 w
      rw [hf2] at HN
      have H0 := Lib.hid h0
      have hc1 := Int.emod_nonneg (-a2) (show a0 ≠ 0 by omega)
      have hc2 := Int.emod_lt_of_pos (-a2) (show 0 < a0 by omega)
      have G := Lib.hid g
      have HD := Lib.hid fun w' b d (h1 : RowL w' a1 cap1 xs) (h2 : RowL w' b d [-a2 % a0, 1]) => poly_Div a0 a1 b cap1 d xs [-a2 % a0, 1] w' g (good_two g hc1 hc2) h1 h2 (by simp)
      have HOne := Lib.hid fun w' b d (h : RowL w' b d [1]) => poly_At a0 a2 b d [1] w' (good_one g) h hr.1 hr.2
      rw [show valL a0 [1] (a2 % a0) = 1 by rw [valL_ev]; show (1 + a2 % a0 * 0) % a0 = 1; rw [Int.mul_zero, Int.add_zero]; exact Int.emod_eq_of_lt (by omega) (by omega)] at HOne
      have HV := Lib.hid fun q r (h : DivInv a0 xs [-a2 % a0, 1] q r) (hr : r.length < 2) => factor_two g h hr
      obtain ⟨y1, y2⟩ := val_rng (show 1 ≤ a0 by omega) xs (a2 % a0)
      obtain ⟨y, hy⟩ : ∃ y, valL a0 xs (a2 % a0) = y := ⟨_, rfl⟩
      rw [hy] at HAt HV y1 y2
      rw [e1] at HAt HD
      have p1 := hp.1
      have p2 := hp.2.1
      obtain ⟨r1, r2⟩ := hr
      simp only [List.length_cons, List.length_nil] at HD HOne
      clear e1 h0 h1 hf hf2 g hp hy
      go_enter Try.func6, Try.ntmps6
      go_wp2_with fail
      refine (sound_one' true E1.out (by omega) HR.out (by rw [H0.out]; rfl)).mono ?_
      rintro e w1 ⟨rfl, hb1⟩
      go_wp2_with fail
      refine (HN.out _).mono ?_
      rintro e w2 ⟨rfl, rfl⟩
      go_wp2_with fail
      refine (HAt.out _ (HR.out.below hb1 (Nat.le_refl _))).mono ?_
      rintro e w3 ⟨rfl, hb2⟩
      have hb3 := below_two hb1 hb2
      clear hb1 hb2
      go_wp2_with fail
      refine (ref_Mod (-a2) a0 _ (by omega) (by omega)).mono ?_
      rintro e w4 ⟨rfl, rfl⟩
      go_wp2_with fail
      refine (HD.out _ _ _ ((HR.out.below hb3 (Nat.le_refl _)).below (alloc_below w3 _) (Nat.le_refl _)) (rowL_two w3 _ _)).mono ?_
      rintro e w5 ⟨⟨aq, ar, cq, cr, qs, rs, rfl, hq, hrr, hd, hlt⟩, hb5⟩
      have hb6 := below_two hb3 (below_two (alloc_below w3 _) hb5)
      clear hb5 hb3 hq
      rcases HV.out qs rs hd hlt with ⟨l0, hv⟩ | ⟨l0, hv, hne⟩
      · subst hv
        rw [l0]
        clear hlt hd hrr l0
        go_wp2_with fail
        refine (HOne.out _ _ _ (rowL_new w5 1)).mono ?_
        rintro e w7 ⟨rfl, hb7⟩
        go_wp2
        go_ret
        exact ⟨rfl, below_two hb6 (below_two (alloc_below w5 _) hb7)⟩
      · obtain ⟨b, o, rfl, hcell⟩ := (hrr.below (alloc_below w5 (.cells #[.int .i64 1] 2)) (Nat.le_refl _)).shape (by omega)
        have HRR := Lib.hid hrr
        have HL0 := Lib.hid l0
        have HVV := Lib.hid hv
        have q1 : (y == 0) = false := by simpa using hne
        have q2 : (y != 0) = true := by simpa using hne
        rw [l0]
        clear hlt hd hrr l0 hcell hv hne
        go_wp2_with fail
        refine (HOne.out _ _ _ (rowL_new w5 1)).mono ?_
        rintro e w7 ⟨rfl, hb7⟩
        have hb8 := below_two (alloc_below w5 _) hb7
        obtain ⟨_, _, e9, hcell⟩ := (HRR.out.below hb8 (Nat.le_refl _)).shape (by rw [HL0.out]; omega)
        cases e9
        have ky := hcell 0 y HVV.out
        rw [Nat.add_zero] at ky
        clear hcell hb7
        go_wp2
        go_ret
        exact ⟨rfl, below_two hb6 hb8⟩
  · have HAt := Lib.hid fun w' (h : RowL w' a1 cap1 xs) => poly_At_err a0 a2 a1 cap1 xs w' h (by rw [e1]; unfold maxLen; omega) (.inl h0)
    have H0 := Lib.hid h0
    rw [e1] at HAt
    clear e1 h0 h1
    go_enter Try.func6, Try.ntmps6
    go_wp2_with fail
    refine (sound_one' false E1.out (by omega) HR.out (by rw [decide_eq_false H0.out])).mono ?_
    rintro e w1 ⟨rfl, hb1⟩
    go_wp2_with fail
    refine (HAt.out _ (HR.out.below hb1 (Nat.le_refl _))).mono ?_
    rintro e w3 ⟨⟨t, ht, rfl⟩, hb2⟩
    have q1 : (t == 0) = false := by simpa using ht
    have q2 : (t != 0) = true := by simpa using ht
    clear ht
    go_wp2
    go_ret
    exact ⟨rfl, below_two hb1 hb2⟩
end Go.Proofs.Ytfgmnlphejpcaaa
