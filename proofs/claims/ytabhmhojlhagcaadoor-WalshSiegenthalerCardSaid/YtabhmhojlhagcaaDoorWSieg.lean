/- The walks of the statements WalshSiegenthaler and WalshRothaus. -/
import Derived.Test.YtabhmhojlhagcaaDoorImm
namespace Go.Proofs.YtabhmhojlhagcaaDoor
open Go.RowKit
set_option linter.unusedVariables false
set_option linter.unusedSimpArgs false
set_option maxHeartbeats 3200000 in
theorem WWalshSiegenthaler (a0 : Int) (a1 : Int) (a2 : Int) (w : World) (hT : TabB w) (w0 : (Lit.int .i64 a0).wf = true) (w1 : (Lit.int .u32 a1).wf = true) (w2 : (Lit.int .i64 a2).wf = true) :
    Calls Tryd.prog 4 #[.int .i64 a0, .int .u32 a1, .int .i64 a2] w fun e w' => e = .returned (.bool true) ∧ Below w.heap.size w w' := by
  have h1 := wf32 w1
  obtain ⟨f, rfl⟩ := Int.eq_ofNat_of_zero_le h1.1
  have hf : f < 4294967296 := by omega
  have b0 := wf64 w0
  have b2 := wf64 w2
  clear w0 w1 w2 h1
  have HK := Lib.hid fun w => keep_function a0 f w hf
  by_cases hfun : funB a0 f = true
  · rw [hfun] at HK
    obtain ⟨h1, h2, h3⟩ := funB_yes.1 hfun
    obtain ⟨n, rfl⟩ := Int.eq_ofNat_of_zero_le h1
    have hn : n ≤ 5 := by omega
    have h3' : f < 2 ^ 2 ^ n := by simpa using h3
    have HDg := Lib.hid fun W hT => walsh_Degree n f W hn h3' hT
    have HT := Lib.hid hT
    by_cases hk : a2 < 0 ∨ (n : Int) < a2
    · have HI := Lib.hid fun W => walsh_Immune_far n f a2 W hn h3' hk
      clear hfun h3 h3' hT
      by_cases hk0 : a2 < 0
      · go_enter Tryd.func4, Tryd.ntmps4
        go_wp2_with fail
        refine (HI.out _).mono ?_
        rintro e w1 ⟨rfl, hb1⟩
        go_wp2_with fail
        refine (HDg.out _ (HT.out.below hb1)).mono ?_
        rintro e w2 ⟨d, rfl, _, _, _, hb2⟩
        have hb := below_two hb1 hb2
        clear hb1 hb2
        go_wp2_with fail
        refine (HK.out _).mono ?_
        rintro e w' ⟨rfl, rfl⟩
        go_wp2
        go_ret
        exact ⟨rfl, hb⟩
      · have hk1 : (n : Int) < a2 := by omega
        go_enter Tryd.func4, Tryd.ntmps4
        go_wp2_with fail
        refine (HI.out _).mono ?_
        rintro e w1 ⟨rfl, hb1⟩
        go_wp2_with fail
        refine (HDg.out _ (HT.out.below hb1)).mono ?_
        rintro e w2 ⟨d, rfl, _, _, _, hb2⟩
        have hb := below_two hb1 hb2
        clear hb1 hb2
        go_wp2_with fail
        refine (HK.out _).mono ?_
        rintro e w' ⟨rfl, rfl⟩
        go_wp2
        go_ret
        exact ⟨rfl, hb⟩
    · obtain ⟨k, rfl⟩ := Int.eq_ofNat_of_zero_le (show 0 ≤ a2 by omega)
      have hkn : k ≤ n := by omega
      have HI := Lib.hid fun W => walsh_Immune n f k W hn h3' hkn
      have HI0 := Lib.hid fun W => walsh_Immune n f 0 W hn h3' (Nat.zero_le _)
      rw [immB_zero] at HI0
      have HL : Hid (∀ d, IsDeg (anfN n f) d → (-1 ≤ d ∧ d ≤ n) ∧ (immB n f k = true → d + k ≤ n)) := Lib.hid fun d hd => ⟨deg_le hn hd, fun h => sieg_law hn hkn hd (immB_yes h)⟩
      obtain ⟨B, hB⟩ : ∃ B, immB n f k = B := ⟨_, rfl⟩
      rw [hB] at HI HL
      clear hB hfun h3 h3' hk hT
      have k1 : ¬ (k : Int) < 0 := by omega
      have k2 : ¬ (n : Int) < (k : Int) := by omega
      go_enter Tryd.func4, Tryd.ntmps4
      go_wp2_with fail
      refine (HI.out _).mono ?_
      rintro e w1 ⟨rfl, hb1⟩
      go_wp2_with fail
      refine (HDg.out _ (HT.out.below hb1)).mono ?_
      rintro e w2 ⟨d, rfl, hd, _, _, hb2⟩
      have hb := below_two hb1 hb2
      have HD := HL.out d hd
      have d1 := HD.1.1
      have d2 := HD.1.2
      have HD2 := Lib.hid HD.2
      clear hb1 hb2 HD hd
      go_wp2_with fail
      refine (HK.out _).mono ?_
      rintro e w' ⟨rfl, rfl⟩
      go_wp2_with fail
      refine (HI0.out _).mono ?_
      rintro e w3 ⟨rfl, hb3⟩
      have hbb := below_two hb hb3
      cases B with
      | false =>
        go_wp2
        go_ret
        exact ⟨rfl, hbb⟩
      | true =>
        have d3 := HD2.out rfl
        go_wp2
        go_ret
        exact ⟨rfl, hbb⟩
  · have hfun : funB a0 f = false := by simpa using hfun
    rw [hfun] at HK
    have HI := Lib.hid fun w => walsh_Immune_no a0 f a2 w hf hfun
    have HDg := Lib.hid fun w => walsh_Degree_no a0 f w hf hfun
    clear hfun
    go_enter Tryd.func4, Tryd.ntmps4
    go_wp2_with fail
    refine (HI.out _).mono ?_
    rintro e w' ⟨rfl, rfl⟩
    go_wp2_with fail
    refine (HDg.out _).mono ?_
    rintro e w' ⟨rfl, rfl⟩
    go_wp2_with fail
    refine (HK.out _).mono ?_
    rintro e w' ⟨rfl, rfl⟩
    go_wp2
    go_ret
    exact ⟨rfl, Below.refl _ _⟩
end Go.Proofs.YtabhmhojlhagcaaDoor
