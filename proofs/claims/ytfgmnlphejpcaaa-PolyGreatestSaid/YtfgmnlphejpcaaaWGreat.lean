/- The walk of PolyGreatest. -/
import Derived.Test.YtfgmnlphejpcaaaGcd
namespace Go.Proofs.Ytfgmnlphejpcaaa
open Go.RowKit
set_option linter.unusedVariables false
set_option linter.unusedSimpArgs false
set_option maxRecDepth 100000 in
set_option maxHeartbeats 6400000 in
theorem WPolyGreatest (a0 : Int) (a1 : Option Addr) (len1 cap1 : Nat) (z1 : List Int) (a2 : Option Addr) (len2 cap2 : Nat) (z2 : List Int) (a3 : Option Addr) (len3 cap3 : Nat) (z3 : List Int) (w : World) (w0 : (Lit.int .i64 a0).wf = true) (w1 : IsRow .i64 w a1 len1 cap1 z1) (w2 : IsRow .i64 w a2 len2 cap2 z2) (w3 : IsRow .i64 w a3 len3 cap3 z3) :
    Calls Try.prog 5 #[.int .i64 a0, .slice a1 len1 cap1, .slice a2 len2 cap2, .slice a3 len3 cap3] w fun e w' => e = .returned (.bool true) ∧ Below w.heap.size w w' := by
  obtain ⟨xs, e1, h1, _, m1⟩ := w1.longs
  obtain ⟨ys, e2, h2, _, m2⟩ := w2.longs
  obtain ⟨zs, e3, h3, _, m3⟩ := w3.longs
  clear w0 w1 w2 w3 z1 z2 z3
  unfold maxLen at m1 m2 m3
  have HR1 := Lib.hid h1
  have HR2 := Lib.hid h2
  have HR3 := Lib.hid h3
  have E1 := Lib.hid e1
  have E2 := Lib.hid e2
  have E3 := Lib.hid e3
  clear h1 h2 h3
  by_cases h0 : bothE a0 xs ys = 0
  · obtain ⟨g1, g2⟩ := bothE_zero.1 h0
    have G1 := Lib.hid g1
    have G2 := Lib.hid g2
    have H0 := Lib.hid h0
    have HG := Lib.hid (poly_Gcd a0 a1 a2 cap1 cap2 xs ys w g1 g2 HR1.out HR2.out e1 e2)
    have hlt1 := g1.len
    have hlt2 := g2.len
    rw [e1] at hlt1
    rw [e2] at hlt2
    clear e1 e2 e3 h0 g1 g2
    rcases Nat.eq_zero_or_pos len1 with rfl | q1 <;> rcases Nat.eq_zero_or_pos len2 with rfl | q2
    case inl.inl =>
      go_enter Try.func5, Try.ntmps5
      go_wp2_with fail
      refine HG.out.mono ?_
      rintro e w1 ⟨⟨ag, cg, gs, rfl, hg, hz, _⟩, hb1⟩
      rw [hz ⟨trivial, trivial⟩]
      clear hz hg
      go_wp2_with fail
      refine (sound_two' true E1.out E2.out (by omega) (by omega) (HR1.out.below hb1 (Nat.le_refl _)) (HR2.out.below hb1 (Nat.le_refl _)) (by rw [H0.out]; rfl)).mono ?_
      rintro e w2 ⟨rfl, hb2⟩
      go_wp2
      go_ret
      exact ⟨rfl, below_two hb1 hb2⟩
    all_goals
      go_enter Try.func5, Try.ntmps5
      go_wp2_with fail
      refine HG.out.mono ?_
      rintro e w1 ⟨⟨ag, cg, gs, rfl, hg, _, hpost⟩, hb1⟩
      have HP := Lib.hid (hpost (by omega))
      clear hpost
      obtain ⟨n, hn⟩ : ∃ n, gs.length = n + 1 := ⟨gs.length - 1, by have := HP.out.pos; omega⟩
      have HN := Lib.hid hn
      have hn13 : n ≤ 12 := by have := HP.out.good.len; omega
      rw [hn]
      clear hn
      go_wp2_with fail
      refine (sound_two' true E1.out E2.out (by omega) (by omega) (HR1.out.below hb1 (Nat.le_refl _)) (HR2.out.below hb1 (Nat.le_refl _)) (by rw [H0.out]; rfl)).mono ?_
      rintro e w2 ⟨rfl, hb2⟩
      have hb := below_two hb1 hb2
      have HGr := Lib.hid (hg.below hb2 (Nat.le_refl _))
      obtain ⟨b, o, rfl, hcell⟩ := HGr.out.shape (by rw [HN.out]; omega)
      have kx := hcell n 1 (by have := HP.out.last; rw [HN.out, Nat.add_sub_cancel] at this; exact this)
      clear hcell hg hb1 hb2
      go_wp2_with fail
      refine (keep_divides a0 _ _ _ _ xs gs _ G1.out HP.out.good (HR1.out.below hb (Nat.le_refl _)) HGr.out (by omega) E1.out HN.out (dvB_yes HP.out.d1)).mono ?_
      rintro e w3 ⟨rfl, hb3⟩
      have hb4 := below_two hb hb3
      have HGr4 := Lib.hid (HGr.out.below hb3 (Nat.le_refl _))
      clear kx HGr hb hb3
      go_wp2_with fail
      refine (keep_divides a0 _ _ _ _ ys gs _ G2.out HP.out.good (HR2.out.below hb4 (Nat.le_refl _)) HGr4.out (by omega) E2.out HN.out (dvB_yes HP.out.d2)).mono ?_
      rintro e w5 ⟨rfl, hb5⟩
      have hb6 := below_two hb4 hb5
      have HGr6 := Lib.hid (HGr4.out.below hb5 (Nat.le_refl _))
      clear HGr4 hb4 hb5
      go_wp2_with fail
      by_cases hc : polyE a0 zs = 0
      case neg =>
        refine (sound_one' false E3.out (by omega) (HR3.out.below hb6 (Nat.le_refl _)) (by rw [decide_eq_false hc])).mono ?_
        rintro e w7 ⟨rfl, hb7⟩
        go_wp2
        go_ret
        exact ⟨rfl, below_two hb6 hb7⟩
      case pos =>
        have G3 := Lib.hid (polyE_zero.1 hc)
        refine (sound_one' true E3.out (by omega) (HR3.out.below hb6 (Nat.le_refl _)) (by rw [decide_eq_true hc])).mono ?_
        rintro e w7 ⟨rfl, hb7⟩
        have hb := below_two hb6 hb7
        have HGr := Lib.hid (HGr6.out.below hb7 (Nat.le_refl _))
        clear hc HGr6 hb6 hb7
        rcases Nat.eq_zero_or_pos len3 with rfl | q3
        case inl =>
          go_wp2
          go_ret
          exact ⟨rfl, hb⟩
        case inr =>
          have q4 : ((len3 : Int) == 0) = false := by simp; omega
          go_wp2_with fail
          obtain ⟨t1, ht1⟩ : ∃ t, dvB a0 zs xs = t := ⟨_, rfl⟩
          refine (keep_divides a0 _ _ _ _ xs zs _ G1.out G3.out (HR1.out.below hb (Nat.le_refl _)) (HR3.out.below hb (Nat.le_refl _)) q3 E1.out E3.out ht1).mono ?_
          have HT1 := Lib.hid ht1
          clear ht1
          rintro e w8 ⟨rfl, hb8⟩
          have hb9 := below_two hb hb8
          have HGr9 := Lib.hid (HGr.out.below hb8 (Nat.le_refl _))
          clear HGr hb hb8
          cases t1
          case false =>
            go_wp2
            go_ret
            exact ⟨rfl, hb9⟩
          case true =>
            go_wp2_with fail
            obtain ⟨t2, ht2⟩ : ∃ t, dvB a0 zs ys = t := ⟨_, rfl⟩
            refine (keep_divides a0 _ _ _ _ ys zs _ G2.out G3.out (HR2.out.below hb9 (Nat.le_refl _)) (HR3.out.below hb9 (Nat.le_refl _)) q3 E2.out E3.out ht2).mono ?_
            have HT2 := Lib.hid ht2
            clear ht2
            rintro e w10 ⟨rfl, hb10⟩
            have hb11 := below_two hb9 hb10
            have HGr11 := Lib.hid (HGr9.out.below hb10 (Nat.le_refl _))
            clear HGr9 hb9 hb10
            cases t2
            case false =>
              go_wp2
              go_ret
              exact ⟨rfl, hb11⟩
            case true =>
              go_wp2_with fail
              refine (keep_divides a0 _ _ _ _ gs zs _ HP.out.good G3.out HGr11.out (HR3.out.below hb11 (Nat.le_refl _)) q3 HN.out E3.out (dvB_yes (HP.out.dv zs (dvB_true HT1.out) (dvB_true HT2.out)))).mono ?_
              rintro e w12 ⟨rfl, hb12⟩
              go_wp2
              go_ret
              exact ⟨rfl, below_two hb11 hb12⟩
  · have HG := Lib.hid (poly_Gcd_bad a0 a1 a2 cap1 cap2 xs ys w h0 HR1.out HR2.out e1 e2 m1 m2)
    have H0 := Lib.hid h0
    clear e1 e2 e3 h0
    go_enter Try.func5, Try.ntmps5
    go_wp2_with fail
    refine HG.out.mono ?_
    rintro e w1 ⟨⟨t, ht, rfl⟩, hb1⟩
    have q1 : (t == 0) = false := by simpa using ht
    have q2 : (t != 0) = true := by simpa using ht
    clear ht
    go_wp2_with fail
    refine (sound_two' false E1.out E2.out (by omega) (by omega) (HR1.out.below hb1 (Nat.le_refl _)) (HR2.out.below hb1 (Nat.le_refl _)) (by rw [decide_eq_false H0.out])).mono ?_
    rintro e w2 ⟨rfl, hb2⟩
    go_wp2
    go_ret
    exact ⟨rfl, below_two hb1 hb2⟩
end Go.Proofs.Ytfgmnlphejpcaaa
