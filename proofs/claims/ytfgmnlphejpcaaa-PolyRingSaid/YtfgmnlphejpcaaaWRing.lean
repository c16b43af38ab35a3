/- The walk of PolyRing. -/
import Derived.Test.YtfgmnlphejpcaaaKeep
namespace Go.Proofs.Ytfgmnlphejpcaaa
open Go.RowKit
set_option linter.unusedVariables false
set_option linter.unusedSimpArgs false
set_option maxRecDepth 100000 in
set_option maxHeartbeats 6400000 in
theorem WPolyRing (a0 : Int) (a1 : Option Addr) (len1 cap1 : Nat) (z1 : List Int) (a2 : Option Addr) (len2 cap2 : Nat) (z2 : List Int) (a3 : Option Addr) (len3 cap3 : Nat) (z3 : List Int) (w : World) (w0 : (Lit.int .i64 a0).wf = true) (w1 : IsRow .i64 w a1 len1 cap1 z1) (w2 : IsRow .i64 w a2 len2 cap2 z2) (w3 : IsRow .i64 w a3 len3 cap3 z3) :
    Calls Try.prog 4 #[.int .i64 a0, .slice a1 len1 cap1, .slice a2 len2 cap2, .slice a3 len3 cap3] w fun e w' => e = .returned (.bool true) ∧ Below w.heap.size w w' := by
  obtain ⟨xs, e1, h1, _, m1⟩ := w1.longs
  obtain ⟨ys, e2, h2, _, m2⟩ := w2.longs
  obtain ⟨zs, e3, h3, _, m3⟩ := w3.longs
  clear w0 w1 w2 w3 z1 z2 z3
  unfold maxLen at m1 m2 m3
  have HR1 := Lib.hid h1
  have HR2 := Lib.hid h2
  have HR3 := Lib.hid h3
  have E1 := Lib.hid e1
  have E2 := Lib.hid e2
  have E3 := Lib.hid e3
  clear h1 h2 h3
  by_cases h0 : bothE a0 xs ys = 0
  · obtain ⟨g1, g2⟩ := bothE_zero.1 h0
    have G1 := Lib.hid g1
    have G2 := Lib.hid g2
    have H0 := Lib.hid h0
    have hlt1 := g1.len
    have hlt2 := g2.len
    rw [e1] at hlt1
    rw [e2] at hlt2
    obtain ⟨N, hN⟩ : ∃ N, (timesL a0 xs ys).length = N := ⟨_, rfl⟩
    obtain ⟨S, hS⟩ : ∃ N, (plusL a0 xs ys 1 0).length = N := ⟨_, rfl⟩
    have HN := Lib.hid hN
    have HS := Lib.hid hS
    have hp := g1.prime
    have HN2 := Lib.hid (hN ▸ ring_comm (show 1 ≤ a0 by omega) ys xs ▸ rfl : (timesL a0 ys xs).length = N)
    have HS2 := Lib.hid (hS ▸ ring_addc (show 1 ≤ a0 by omega) g2.rng g1.rng ▸ rfl : (plusL a0 ys xs 1 0).length = S)
    have hlen : 0 < len1 → 0 < len2 → N = len1 + len2 - 1 := by
      intro q1 q2
      rw [← hN, ← e1, ← e2]
      exact ring_len hp.2.2 hp.1 g1.rng g2.rng g1.last g2.last (by omega) (by omega)
    have hNb : N ≤ 26 := by rw [← hN]; have := timesTo_len a0 xs ys xs.length; unfold timesL; omega
    clear e1 e2 e3 hN hS h0 g1 g2
    have hbt : Below w.heap.size w w := Below.refl _ _
    rcases Nat.eq_zero_or_pos len1 with rfl | q1 <;> rcases Nat.eq_zero_or_pos len2 with rfl | q2
    all_goals
      first | have d3 : ((N : Int) != (len1 : Int) + (len2 : Int) - 1) = false := (by have := hlen q1 q2; simp; omega) | skip
      clear hlen
      have hSb : S ≤ 13 := by rw [← HS.out]; exact (good_plus G1.out G2.out).len
      go_enter Try.func4, Try.ntmps4
      go_wp2_with fail
      refine (mul_good G1.out G2.out E1.out E2.out HN.out HR1.out HR2.out).mono ?_
      rintro e w' ⟨⟨ab, cab, rfl, rab⟩, hb'⟩
      replace HR1 := Lib.hid (HR1.out.below hb' (Nat.le_refl _))
      replace HR2 := Lib.hid (HR2.out.below hb' (Nat.le_refl _))
      replace HR3 := Lib.hid (HR3.out.below hb' (Nat.le_refl _))
      replace hbt := below_two hbt hb'
      have HAB := Lib.hid rab
      clear rab
      clear hb'
      go_wp2_with fail
      refine (sound_two' true E1.out E2.out (by omega) (by omega) HR1.out HR2.out (by rw [H0.out]; rfl)).mono ?_
      rintro e w' ⟨rfl, hb'⟩
      replace HR1 := Lib.hid (HR1.out.below hb' (Nat.le_refl _))
      replace HR2 := Lib.hid (HR2.out.below hb' (Nat.le_refl _))
      replace HR3 := Lib.hid (HR3.out.below hb' (Nat.le_refl _))
      replace HAB := Lib.hid (HAB.out.below hb' (Nat.le_refl _))
      replace hbt := below_two hbt hb'
      clear hb'
      go_wp2_with fail
      refine (mul_good G2.out G1.out E2.out E1.out HN2.out HR2.out HR1.out).mono ?_
      rintro e w' ⟨⟨ba, cba, rfl, rba⟩, hb'⟩
      replace HR1 := Lib.hid (HR1.out.below hb' (Nat.le_refl _))
      replace HR2 := Lib.hid (HR2.out.below hb' (Nat.le_refl _))
      replace HR3 := Lib.hid (HR3.out.below hb' (Nat.le_refl _))
      replace HAB := Lib.hid (HAB.out.below hb' (Nat.le_refl _))
      replace hbt := below_two hbt hb'
      have HBA := Lib.hid rba
      clear rba
      clear hb'
      go_wp2_with fail
      refine (add_good G1.out G2.out E1.out E2.out HS.out HR1.out HR2.out).mono ?_
      rintro e w' ⟨⟨s, cs, rfl, rs⟩, hb'⟩
      replace HR1 := Lib.hid (HR1.out.below hb' (Nat.le_refl _))
      replace HR2 := Lib.hid (HR2.out.below hb' (Nat.le_refl _))
      replace HR3 := Lib.hid (HR3.out.below hb' (Nat.le_refl _))
      replace HAB := Lib.hid (HAB.out.below hb' (Nat.le_refl _))
      replace HBA := Lib.hid (HBA.out.below hb' (Nat.le_refl _))
      replace hbt := below_two hbt hb'
      have HSU := Lib.hid rs
      clear rs
      clear hb'
      go_wp2_with fail
      refine (add_good G2.out G1.out E2.out E1.out HS2.out HR2.out HR1.out).mono ?_
      rintro e w' ⟨⟨z, cz, rfl, rz⟩, hb'⟩
      replace HR1 := Lib.hid (HR1.out.below hb' (Nat.le_refl _))
      replace HR2 := Lib.hid (HR2.out.below hb' (Nat.le_refl _))
      replace HR3 := Lib.hid (HR3.out.below hb' (Nat.le_refl _))
      replace HAB := Lib.hid (HAB.out.below hb' (Nat.le_refl _))
      replace HBA := Lib.hid (HBA.out.below hb' (Nat.le_refl _))
      replace HSU := Lib.hid (HSU.out.below hb' (Nat.le_refl _))
      replace hbt := below_two hbt hb'
      have HZU := Lib.hid rz
      clear rz
      clear hb'
      go_wp2_with fail
      refine (longs_same (ring_comm (by omega) xs ys) HN.out (by omega) HAB.out HBA.out).mono ?_
      rintro e w' ⟨rfl, hb'⟩
      replace HR1 := Lib.hid (HR1.out.below hb' (Nat.le_refl _))
      replace HR2 := Lib.hid (HR2.out.below hb' (Nat.le_refl _))
      replace HR3 := Lib.hid (HR3.out.below hb' (Nat.le_refl _))
      replace HAB := Lib.hid (HAB.out.below hb' (Nat.le_refl _))
      replace HBA := Lib.hid (HBA.out.below hb' (Nat.le_refl _))
      replace HSU := Lib.hid (HSU.out.below hb' (Nat.le_refl _))
      replace HZU := Lib.hid (HZU.out.below hb' (Nat.le_refl _))
      replace hbt := below_two hbt hb'
      clear hb'
      go_wp2_with fail
      refine (longs_same (ring_addc (by omega) G1.out.rng G2.out.rng) HS.out (by omega) HSU.out HZU.out).mono ?_
      rintro e w' ⟨rfl, hb'⟩
      replace HR1 := Lib.hid (HR1.out.below hb' (Nat.le_refl _))
      replace HR2 := Lib.hid (HR2.out.below hb' (Nat.le_refl _))
      replace HR3 := Lib.hid (HR3.out.below hb' (Nat.le_refl _))
      replace HAB := Lib.hid (HAB.out.below hb' (Nat.le_refl _))
      replace HBA := Lib.hid (HBA.out.below hb' (Nat.le_refl _))
      replace HSU := Lib.hid (HSU.out.below hb' (Nat.le_refl _))
      replace HZU := Lib.hid (HZU.out.below hb' (Nat.le_refl _))
      replace hbt := below_two hbt hb'
      clear hb'
      go_wp2_with fail
      by_cases hc : polyE a0 zs = 0
      case neg =>
        refine (sound_one' false E3.out (by omega) HR3.out (by rw [decide_eq_false hc])).mono ?_
        rintro e w' ⟨rfl, hb'⟩
        replace HR1 := Lib.hid (HR1.out.below hb' (Nat.le_refl _))
        replace HR2 := Lib.hid (HR2.out.below hb' (Nat.le_refl _))
        replace HR3 := Lib.hid (HR3.out.below hb' (Nat.le_refl _))
        replace HAB := Lib.hid (HAB.out.below hb' (Nat.le_refl _))
        replace HBA := Lib.hid (HBA.out.below hb' (Nat.le_refl _))
        replace HSU := Lib.hid (HSU.out.below hb' (Nat.le_refl _))
        replace HZU := Lib.hid (HZU.out.below hb' (Nat.le_refl _))
        replace hbt := below_two hbt hb'
        clear hb'
        go_wp2
        go_ret
        exact ⟨rfl, hbt⟩
      case pos =>
        have G3 := Lib.hid (polyE_zero.1 hc)
        refine (sound_one' true E3.out (by omega) HR3.out (by rw [decide_eq_true hc])).mono ?_
        rintro e w' ⟨rfl, hb'⟩
        replace HR1 := Lib.hid (HR1.out.below hb' (Nat.le_refl _))
        replace HR2 := Lib.hid (HR2.out.below hb' (Nat.le_refl _))
        replace HR3 := Lib.hid (HR3.out.below hb' (Nat.le_refl _))
        replace HAB := Lib.hid (HAB.out.below hb' (Nat.le_refl _))
        replace HBA := Lib.hid (HBA.out.below hb' (Nat.le_refl _))
        replace HSU := Lib.hid (HSU.out.below hb' (Nat.le_refl _))
        replace HZU := Lib.hid (HZU.out.below hb' (Nat.le_refl _))
        replace hbt := below_two hbt hb'
        clear hb'
        clear hc
        have hl3 : len3 ≤ 13 := by have := G3.out.len; have := E3.out; omega
        by_cases h13 : 13 < N
        case pos =>
          have d4 : decide (13 < (N : Int)) = true := decide_eq_true (by omega)
          go_wp2
          go_ret
          exact ⟨rfl, hbt⟩
        case neg =>
          have d4 : decide (13 < (N : Int)) = false := decide_eq_false (by omega)
          have GAB := Lib.hid (good_times G1.out (ys := ys) (by rw [HN.out]; omega))
          have GS := Lib.hid (good_plus G1.out G2.out)
          obtain ⟨K, hK⟩ : ∃ N, (timesL a0 ys zs).length = N := ⟨_, rfl⟩
          obtain ⟨M, hM⟩ : ∃ N, (timesL a0 xs zs).length = N := ⟨_, rfl⟩
          have HK := Lib.hid hK
          have HM := Lib.hid hM
          have hKb : K ≤ 26 := by rw [← hK]; have := timesL_len a0 ys zs; have := G2.out.len; have := G3.out.len; omega
          have hMb : M ≤ 26 := by rw [← hM]; have := timesL_len a0 xs zs; have := G1.out.len; have := G3.out.len; omega
          clear hK hM h13
          go_wp2_with fail
          refine (mul_good G2.out G3.out E2.out E3.out HK.out HR2.out HR3.out).mono ?_
          rintro e w' ⟨⟨bc, cbc, rfl, rbc⟩, hb'⟩
          replace HR1 := Lib.hid (HR1.out.below hb' (Nat.le_refl _))
          replace HR2 := Lib.hid (HR2.out.below hb' (Nat.le_refl _))
          replace HR3 := Lib.hid (HR3.out.below hb' (Nat.le_refl _))
          replace HAB := Lib.hid (HAB.out.below hb' (Nat.le_refl _))
          replace HBA := Lib.hid (HBA.out.below hb' (Nat.le_refl _))
          replace HSU := Lib.hid (HSU.out.below hb' (Nat.le_refl _))
          replace HZU := Lib.hid (HZU.out.below hb' (Nat.le_refl _))
          replace hbt := below_two hbt hb'
          have HBC := Lib.hid rbc
          clear rbc
          clear hb'
          go_wp2_with fail
          refine (mul_good G1.out G3.out E1.out E3.out HM.out HR1.out HR3.out).mono ?_
          rintro e w' ⟨⟨ac, cac, rfl, rac⟩, hb'⟩
          replace HR1 := Lib.hid (HR1.out.below hb' (Nat.le_refl _))
          replace HR2 := Lib.hid (HR2.out.below hb' (Nat.le_refl _))
          replace HR3 := Lib.hid (HR3.out.below hb' (Nat.le_refl _))
          replace HAB := Lib.hid (HAB.out.below hb' (Nat.le_refl _))
          replace HBA := Lib.hid (HBA.out.below hb' (Nat.le_refl _))
          replace HSU := Lib.hid (HSU.out.below hb' (Nat.le_refl _))
          replace HZU := Lib.hid (HZU.out.below hb' (Nat.le_refl _))
          replace HBC := Lib.hid (HBC.out.below hb' (Nat.le_refl _))
          replace hbt := below_two hbt hb'
          have HAC := Lib.hid rac
          clear rac
          clear hb'
          clear d4
          by_cases h13 : 13 < K
          case pos =>
            have d5 : decide (13 < (K : Int)) = true := decide_eq_true (by omega)
            go_wp2
            go_ret
            exact ⟨rfl, hbt⟩
          case neg =>
            have dK : decide (13 < (K : Int)) = false := decide_eq_false (by omega)
            have hK := h13
            clear h13
            by_cases h13 : 13 < M
            case pos =>
              have d5 : decide (13 < (M : Int)) = true := decide_eq_true (by omega)
              go_wp2
              go_ret
              exact ⟨rfl, hbt⟩
            case neg =>
              have dM : decide (13 < (M : Int)) = false := decide_eq_false (by omega)
              have hM := h13
              clear h13
              have GBC := Lib.hid (good_times G2.out (ys := zs) (by rw [HK.out]; omega))
              have GAC := Lib.hid (good_times G1.out (ys := zs) (by rw [HM.out]; omega))
              obtain ⟨X, hX⟩ : ∃ N, (timesL a0 (timesL a0 xs ys) zs).length = N := ⟨_, rfl⟩
              obtain ⟨U, hU⟩ : ∃ N, (timesL a0 (plusL a0 xs ys 1 0) zs).length = N := ⟨_, rfl⟩
              have hXb : X ≤ 1000 := by rw [← hX]; have := timesL_len a0 (timesL a0 xs ys) zs; have := GAB.out.len; have := G3.out.len; omega
              have hUb : U ≤ 1000 := by rw [← hU]; have := timesL_len a0 (plusL a0 xs ys 1 0) zs; have := GS.out.len; have := G3.out.len; omega
              have QX := Lib.hid (ring_assoc (show 1 ≤ a0 by omega) xs ys zs)
              have QU := Lib.hid (ring_dist (show 1 ≤ a0 by omega) (b := ys) zs G1.out.rng)
              have HX := Lib.hid hX
              have HU := Lib.hid hU
              rw [QX.out] at hX
              rw [QU.out] at hU
              have HX2 := Lib.hid hX
              have HU2 := Lib.hid hU
              clear hX hU hK hM
              go_wp2_with fail
              refine (mul_good GAB.out G3.out HN.out E3.out HX.out HAB.out HR3.out).mono ?_
              rintro e w' ⟨⟨x1, cx, rfl, rx⟩, hb'⟩
              replace HR1 := Lib.hid (HR1.out.below hb' (Nat.le_refl _))
              replace HR2 := Lib.hid (HR2.out.below hb' (Nat.le_refl _))
              replace HR3 := Lib.hid (HR3.out.below hb' (Nat.le_refl _))
              replace HAB := Lib.hid (HAB.out.below hb' (Nat.le_refl _))
              replace HBA := Lib.hid (HBA.out.below hb' (Nat.le_refl _))
              replace HSU := Lib.hid (HSU.out.below hb' (Nat.le_refl _))
              replace HZU := Lib.hid (HZU.out.below hb' (Nat.le_refl _))
              replace HBC := Lib.hid (HBC.out.below hb' (Nat.le_refl _))
              replace HAC := Lib.hid (HAC.out.below hb' (Nat.le_refl _))
              replace hbt := below_two hbt hb'
              have HRX := Lib.hid rx
              clear rx
              clear hb'
              go_wp2_with fail
              refine (mul_good G1.out GBC.out E1.out HK.out HX2.out HR1.out HBC.out).mono ?_
              rintro e w' ⟨⟨x2, cy, rfl, ry⟩, hb'⟩
              replace HR1 := Lib.hid (HR1.out.below hb' (Nat.le_refl _))
              replace HR2 := Lib.hid (HR2.out.below hb' (Nat.le_refl _))
              replace HR3 := Lib.hid (HR3.out.below hb' (Nat.le_refl _))
              replace HAB := Lib.hid (HAB.out.below hb' (Nat.le_refl _))
              replace HBA := Lib.hid (HBA.out.below hb' (Nat.le_refl _))
              replace HSU := Lib.hid (HSU.out.below hb' (Nat.le_refl _))
              replace HZU := Lib.hid (HZU.out.below hb' (Nat.le_refl _))
              replace HBC := Lib.hid (HBC.out.below hb' (Nat.le_refl _))
              replace HAC := Lib.hid (HAC.out.below hb' (Nat.le_refl _))
              replace HRX := Lib.hid (HRX.out.below hb' (Nat.le_refl _))
              replace hbt := below_two hbt hb'
              have HRY := Lib.hid ry
              clear ry
              clear hb'
              go_wp2_with fail
              refine (mul_good GS.out G3.out HS.out E3.out HU.out HSU.out HR3.out).mono ?_
              rintro e w' ⟨⟨x3, cu, rfl, ru⟩, hb'⟩
              replace HR1 := Lib.hid (HR1.out.below hb' (Nat.le_refl _))
              replace HR2 := Lib.hid (HR2.out.below hb' (Nat.le_refl _))
              replace HR3 := Lib.hid (HR3.out.below hb' (Nat.le_refl _))
              replace HAB := Lib.hid (HAB.out.below hb' (Nat.le_refl _))
              replace HBA := Lib.hid (HBA.out.below hb' (Nat.le_refl _))
              replace HSU := Lib.hid (HSU.out.below hb' (Nat.le_refl _))
              replace HZU := Lib.hid (HZU.out.below hb' (Nat.le_refl _))
              replace HBC := Lib.hid (HBC.out.below hb' (Nat.le_refl _))
              replace HAC := Lib.hid (HAC.out.below hb' (Nat.le_refl _))
              replace HRX := Lib.hid (HRX.out.below hb' (Nat.le_refl _))
              replace HRY := Lib.hid (HRY.out.below hb' (Nat.le_refl _))
              replace hbt := below_two hbt hb'
              have HRU := Lib.hid ru
              clear ru
              clear hb'
              go_wp2_with fail
              refine (add_good GAC.out GBC.out HM.out HK.out HU2.out HAC.out HBC.out).mono ?_
              rintro e w' ⟨⟨x4, cv, rfl, rv⟩, hb'⟩
              replace HR1 := Lib.hid (HR1.out.below hb' (Nat.le_refl _))
              replace HR2 := Lib.hid (HR2.out.below hb' (Nat.le_refl _))
              replace HR3 := Lib.hid (HR3.out.below hb' (Nat.le_refl _))
              replace HAB := Lib.hid (HAB.out.below hb' (Nat.le_refl _))
              replace HBA := Lib.hid (HBA.out.below hb' (Nat.le_refl _))
              replace HSU := Lib.hid (HSU.out.below hb' (Nat.le_refl _))
              replace HZU := Lib.hid (HZU.out.below hb' (Nat.le_refl _))
              replace HBC := Lib.hid (HBC.out.below hb' (Nat.le_refl _))
              replace HAC := Lib.hid (HAC.out.below hb' (Nat.le_refl _))
              replace HRX := Lib.hid (HRX.out.below hb' (Nat.le_refl _))
              replace HRY := Lib.hid (HRY.out.below hb' (Nat.le_refl _))
              replace HRU := Lib.hid (HRU.out.below hb' (Nat.le_refl _))
              replace hbt := below_two hbt hb'
              have HRV := Lib.hid rv
              clear rv
              clear hb'
              go_wp2_with fail
              refine (longs_same QX.out HX.out hXb HRX.out HRY.out).mono ?_
              rintro e w' ⟨rfl, hb'⟩
              replace HR1 := Lib.hid (HR1.out.below hb' (Nat.le_refl _))
              replace HR2 := Lib.hid (HR2.out.below hb' (Nat.le_refl _))
              replace HR3 := Lib.hid (HR3.out.below hb' (Nat.le_refl _))
              replace HAB := Lib.hid (HAB.out.below hb' (Nat.le_refl _))
              replace HBA := Lib.hid (HBA.out.below hb' (Nat.le_refl _))
              replace HSU := Lib.hid (HSU.out.below hb' (Nat.le_refl _))
              replace HZU := Lib.hid (HZU.out.below hb' (Nat.le_refl _))
              replace HBC := Lib.hid (HBC.out.below hb' (Nat.le_refl _))
              replace HAC := Lib.hid (HAC.out.below hb' (Nat.le_refl _))
              replace HRX := Lib.hid (HRX.out.below hb' (Nat.le_refl _))
              replace HRY := Lib.hid (HRY.out.below hb' (Nat.le_refl _))
              replace HRU := Lib.hid (HRU.out.below hb' (Nat.le_refl _))
              replace HRV := Lib.hid (HRV.out.below hb' (Nat.le_refl _))
              replace hbt := below_two hbt hb'
              clear hb'
              go_wp2_with fail
              refine (longs_same QU.out HU.out hUb HRU.out HRV.out).mono ?_
              rintro e w' ⟨rfl, hb'⟩
              replace HR1 := Lib.hid (HR1.out.below hb' (Nat.le_refl _))
              replace HR2 := Lib.hid (HR2.out.below hb' (Nat.le_refl _))
              replace HR3 := Lib.hid (HR3.out.below hb' (Nat.le_refl _))
              replace HAB := Lib.hid (HAB.out.below hb' (Nat.le_refl _))
              replace HBA := Lib.hid (HBA.out.below hb' (Nat.le_refl _))
              replace HSU := Lib.hid (HSU.out.below hb' (Nat.le_refl _))
              replace HZU := Lib.hid (HZU.out.below hb' (Nat.le_refl _))
              replace HBC := Lib.hid (HBC.out.below hb' (Nat.le_refl _))
              replace HAC := Lib.hid (HAC.out.below hb' (Nat.le_refl _))
              replace HRX := Lib.hid (HRX.out.below hb' (Nat.le_refl _))
              replace HRY := Lib.hid (HRY.out.below hb' (Nat.le_refl _))
              replace HRU := Lib.hid (HRU.out.below hb' (Nat.le_refl _))
              replace HRV := Lib.hid (HRV.out.below hb' (Nat.le_refl _))
              replace hbt := below_two hbt hb'
              clear hb'
              go_wp2
              go_ret
              exact ⟨rfl, hbt⟩
  · have HM := Lib.hid (poly_Mul a0 a1 a2 cap1 cap2 xs ys w HR1.out HR2.out (by rw [e1]; unfold maxLen; omega) (by rw [e2]; unfold maxLen; omega))
    obtain ⟨N, hN⟩ : ∃ N, (mulL a0 xs ys).length = N := ⟨_, rfl⟩
    rw [e1, e2, hN] at HM
    have H0 := Lib.hid h0
    obtain ⟨t, ht⟩ : ∃ t, bothE a0 xs ys = t := ⟨_, rfl⟩
    rw [ht] at HM h0
    have e4 : (t == 0) = false := by simpa using h0
    have e5 : (t != 0) = true := by simpa using h0
    have hbt : Below w.heap.size w w := Below.refl _ _
    clear e1 e2 e3 hN ht h0
    go_enter Try.func4, Try.ntmps4
    go_wp2_with fail
    refine (HM.out).mono ?_
    rintro e w' ⟨⟨ab, cab, rfl, rab⟩, hb'⟩
    replace HR1 := Lib.hid (HR1.out.below hb' (Nat.le_refl _))
    replace HR2 := Lib.hid (HR2.out.below hb' (Nat.le_refl _))
    replace HR3 := Lib.hid (HR3.out.below hb' (Nat.le_refl _))
    replace hbt := below_two hbt hb'
    clear hb'
    go_wp2_with fail
    refine (sound_two' false E1.out E2.out (by omega) (by omega) HR1.out HR2.out (by rw [decide_eq_false H0.out])).mono ?_
    rintro e w' ⟨rfl, hb'⟩
    replace HR1 := Lib.hid (HR1.out.below hb' (Nat.le_refl _))
    replace HR2 := Lib.hid (HR2.out.below hb' (Nat.le_refl _))
    replace HR3 := Lib.hid (HR3.out.below hb' (Nat.le_refl _))
    replace hbt := below_two hbt hb'
    clear hb'
    go_wp2
    go_ret
    exact ⟨rfl, hbt⟩
end Go.Proofs.Ytfgmnlphejpcaaa
