/- The walks of ShiftMakes, ShiftOnly. -/
import Derived.Test.YteggmpogcpceeaaShi7
import Derived.Test.YteggmpogcpceeaaShiL
namespace Go.Proofs.Yteggmpogcpceeaa
open Go.RowKit
set_option linter.unusedVariables false
set_option linter.unusedSimpArgs false
set_option maxRecDepth 100000 in
set_option maxHeartbeats 3200000 in
theorem WShiftMakes (a0 : Option Addr) (len0 cap0 : Nat) (z0 : List Bool) (a1 : Option Addr) (len1 cap1 : Nat) (z1 : List Bool) (w : World) (w0 : IsRowT w a0 len0 cap0 z0) (w1 : IsRowT w a1 len1 cap1 z1) :
    Calls Try.prog 5 #[.slice a0 len0 cap0, .slice a1 len1 cap1] w fun e w' => e = .returned (.bool true) ∧ Below w.heap.size w w' := by
  obtain ⟨l0, c0, h0⟩ := w0
  obtain ⟨l1, c1, h1⟩ := w1
  by_cases hl : 64 < len0
  · have HC := Lib.hid (shift_Short_long a0 cap0 len0 w hl)
    have d1 : decide (64 < (len0 : Int)) = true := decide_eq_true (by omega)
    clear l0 h0 l1 h1
    go_enter Try.func5, Try.ntmps5
    go_wp2_with fail
    refine HC.out.mono ?_
    rintro e w1 ⟨rfl, rfl⟩
    go_wp2
    go_ret
    exact ⟨rfl, Below.refl _ _⟩
  · have HC := shift_Short a0 cap0 z0 w h0 (by omega)
    rw [l0] at HC
    replace HC := Lib.hid HC
    have H0 := Lib.hid h0
    have H1 := Lib.hid h1
    have d1 : decide (64 < (len0 : Int)) = false := decide_eq_false (by omega)
    have hcap1 : len1 ≤ maxLen := by have := h1.2.2; omega
    have hcap : len0 ≤ cap0 := by have := h0.2.2; omega
    have HL0 := Lib.hid l0
    have HL1 := Lib.hid l1
    have HC0 := Lib.hid c0
    clear h0 h1 l0 l1
    go_enter Try.func5, Try.ntmps5
    go_wp2_with fail
    refine HC.out.mono ?_
    rintro e wa ⟨⟨a', c', L, T, rfl, hrow, hmk, C, B, k, hI⟩, hb1⟩
    have hLe := hI.le
    have hLen := bits_list T L
    have HRUN : Hid (Calls Try.prog 9 #[.slice a' L c', .slice a0 L cap0, .int .i64 len0] wa fun e w' => (∃ a'' c'', e = .returned (.tuple #[.slice a'' len0 c'', .int .i64 0]) ∧ RowT w' a'' c'' z0) ∧ Below wa.heap.size wa w') := Lib.hid (by
      have htk : (z0.take L).length = L := by rw [List.length_take, HL0.out]; omega
      have := shift_Run a' a0 c' cap0 len0 _ (z0.take L) wa hrow ((H0.out.take L).below hb1 (Nat.le_refl _)) (by rw [hLen, htk]) (by omega) (by omega)
      rw [hLen, htk, take_getD] at this
      have hz : Sh.runP (fun i => ((List.range L).map fun i => Nat.testBit T i).getD i false) (fun i => z0.getD i false) L len0 = z0 := by
        have h1 : mkB ((List.range L).map fun i => Nat.testBit T i) z0 = true := mkB_iff.2 (by
          rw [hLen, HL0.out]
          exact ⟨hLe, hmk.congr (fun i hi => (bits_getD T L hi).symm) (fun _ _ => rfl)⟩)
        unfold mkB at h1
        rw [hLen, HL0.out, Bool.and_eq_true, beq_iff_eq] at h1
        exact h1.2
      rw [hz] at this
      exact this)
    have HLst : Hid (mkB z1 z0 = true → L ≤ len1) := Lib.hid fun h => by
      obtain ⟨h2, h3⟩ := mkB_iff.1 h
      rw [HL0.out] at h2 h3
      rw [← HL1.out]
      exact hI.least _ _ h2 h3
    have HB1 := Lib.hid hb1
    clear hrow hmk hI hLen
    have d2 : decide ((len0 : Int) < (L : Int)) = false := decide_eq_false (by omega)
    have d3 : (0 : Int) ≤ L := by omega
    have d4 : (L : Int) ≤ cap0 := by omega
    have d5 : L ≤ cap0 := by omega
    go_wp2_with fail
    refine HRUN.out.mono ?_
    rintro e wb ⟨⟨a'', c'', rfl, hrow2⟩, hb2⟩
    have hbb := below_two HB1.out hb2
    have HBO := ref_Bools a'' a0 c'' cap0 z0 z0 wb hrow2 (H0.out.below hbb (Nat.le_refl _)) (by rw [HL0.out]; omega) (by rw [HL0.out]; omega)
    rw [HL0.out, beq_self_eq_true] at HBO
    replace HBO := Lib.hid HBO
    have HBB := Lib.hid hbb
    clear hrow2 hbb hb1 hb2
    go_wp2_with fail
    refine HBO.out.mono ?_
    rintro e wc ⟨rfl, hb3⟩
    have hbc := below_two HBB.out hb3
    have HMK := keep_makes a1 a0 cap1 cap0 z1 z0 wc (H1.out.below hbc (Nat.le_refl _)) (H0.out.below hbc (Nat.le_refl _)) (by rw [HL1.out]; unfold maxLen at hcap1; omega) (by rw [HL0.out]; omega) HC0.out
    rw [HL0.out, HL1.out] at HMK
    obtain ⟨z, hz⟩ : ∃ z, mkB z1 z0 = z := ⟨_, rfl⟩
    rw [hz] at HMK HLst
    replace HMK := Lib.hid HMK
    have HBC := Lib.hid hbc
    clear hz hbc hb3
    go_wp2_with fail
    refine HMK.out.mono ?_
    rintro e wd ⟨rfl, hb4⟩
    have hbd := below_two HBC.out hb4
    clear hb4
    cases z
    · go_wp2
      go_ret
      exact ⟨rfl, hbd⟩
    · go_wp2
      go_ret
      exact ⟨ret_bool (decide_eq_true (HLst.out trivial)), hbd⟩
set_option maxRecDepth 100000 in
set_option maxHeartbeats 3200000 in
theorem WShiftOnly (a0 : Option Addr) (len0 cap0 : Nat) (z0 : List Bool) (a1 : Option Addr) (len1 cap1 : Nat) (z1 : List Bool) (w : World) (w0 : IsRowT w a0 len0 cap0 z0) (w1 : IsRowT w a1 len1 cap1 z1) :
    Calls Try.prog 3 #[.slice a0 len0 cap0, .slice a1 len1 cap1] w fun e w' => e = .returned (.bool true) ∧ Below w.heap.size w w' := by
  obtain ⟨l0, c0, h0⟩ := w0
  obtain ⟨l1, c1, h1⟩ := w1
  by_cases hl : 64 < len0
  · have HC := Lib.hid (shift_Short_long a0 cap0 len0 w hl)
    have d1 : decide (64 < (len0 : Int)) = true := decide_eq_true (by omega)
    clear l0 h0 l1 h1
    go_enter Try.func3, Try.ntmps3
    go_wp2_with fail
    refine HC.out.mono ?_
    rintro e w1 ⟨rfl, rfl⟩
    go_wp2
    go_ret
    exact ⟨rfl, Below.refl _ _⟩
  · have HC := shift_Short a0 cap0 z0 w h0 (by omega)
    rw [l0] at HC
    replace HC := Lib.hid HC
    have H0 := Lib.hid h0
    have H1 := Lib.hid h1
    have d1 : decide (64 < (len0 : Int)) = false := decide_eq_false (by omega)
    have hcap1 : len1 ≤ maxLen := by have := h1.2.2; omega
    have HL0 := Lib.hid l0
    have HL1 := Lib.hid l1
    have HC0 := Lib.hid c0
    clear h0 h1 l0 l1
    go_enter Try.func3, Try.ntmps3
    go_wp2_with fail
    refine HC.out.mono ?_
    rintro e wa ⟨⟨a', c', L, T, rfl, hrow, hmk, C, B, k, hI⟩, hb1⟩
    have hLe := hI.le
    have HMK0 := Lib.hid hmk
    have HI := Lib.hid hI
    have HRT := Lib.hid hrow
    have HB1 := Lib.hid hb1
    have hone : RowT (wa.alloc (.cells #[.bool true] 4)) (some ⟨wa.heap.size, 0, none⟩) 1 [true] := by
      refine ⟨fun e => (by cases e), fun ad e j u hu => ?_, Nat.le_refl _⟩
      cases e
      exact cell_newT wa (.bool true) 4 rfl j u hu
    have HS1 := Lib.hid (shift_Short (some ⟨wa.heap.size, 0, none⟩) 1 [true] (wa.alloc (.cells #[.bool true] 4)) hone (by decide))
    have hb1b := hb1.alloc hb1.size (.cells #[.bool true] 4)
    have HB1b := Lib.hid hb1b
    clear hmk hI hrow hone hb1 hb1b
    go_wp2_with fail
    refine HS1.out.mono ?_
    rintro e wb ⟨⟨a1', c1', L1, T1, rfl, hrow1, _, C1, B1, k1, hI1⟩, hb2⟩
    have hL1 := Sh.one_len hI1
    subst hL1
    have HB2 := Lib.hid (below_two HB1b.out hb2)
    have HBA := Lib.hid (below_two (((Below.refl wa.heap.size wa).alloc (Nat.le_refl _) (.cells #[.bool true] 4))) hb2)
    clear hI1 hb2 hrow1
    have m1 : IntKind.i64.wrap (2 * (L : Int)) = 2 * (L : Int) := IntWalk.i64_in _ (by omega)
    by_cases h2 : len0 < 2 * L
    · have d2 : decide ((len0 : Int) < 2 * (L : Int)) = true := decide_eq_true (by omega)
      have hbb := HB2.out
      go_wp2
      go_ret
      exact ⟨rfl, hbb⟩
    have d2 : decide ((len0 : Int) < 2 * (L : Int)) = false := decide_eq_false (by omega)
    by_cases h3 : len1 = L
    · have d3 : ((len1 : Int) != (L : Int)) = false := by rw [h3]; simp
      have d4 : ((len1 : Int) == (L : Int)) = true := by rw [h3]; simp
      have HE := Lib.hid h3
      clear h3
      have HMK := keep_makes a1 a0 cap1 cap0 z1 z0 wb (H1.out.below HB2.out (Nat.le_refl _)) (H0.out.below HB2.out (Nat.le_refl _)) (by rw [HL1.out]; unfold maxLen at hcap1; omega) (by rw [HL0.out]; omega) HC0.out
      rw [HL0.out, HL1.out] at HMK
      have HUN : Hid (mkB z1 z0 = true → z1 = (List.range L).map fun i => Nat.testBit T i) := Lib.hid fun h => by
        obtain ⟨h4, h5⟩ := mkB_iff.1 h
        rw [HL0.out, HL1.out, HE.out] at h5
        have h6 := Sh.only HI.out.min h5 HMK0.out (by omega)
        apply List.ext_getElem?
        intro i
        by_cases hi : i < L
        · have h7 := h6 i hi
          rw [List.getElem?_map, List.getElem?_range hi, List.getElem?_eq_getElem (by rw [HL1.out, HE.out]; exact hi)]
          simp only [List.getD_eq_getElem?_getD] at h7
          rw [List.getElem?_eq_getElem (by rw [HL1.out, HE.out]; exact hi)] at h7
          simpa using h7
        · rw [List.getElem?_eq_none (by rw [HL1.out, HE.out]; omega), List.getElem?_eq_none (by simp; omega)]
      obtain ⟨z, hz⟩ : ∃ z, mkB z1 z0 = z := ⟨_, rfl⟩
      rw [hz] at HMK HUN
      replace HMK := Lib.hid HMK
      clear hz
      go_wp2_with fail
      refine HMK.out.mono ?_
      rintro e wd ⟨rfl, hb4⟩
      have hbd := below_two HB2.out hb4
      have HAD := Lib.hid (below_two HBA.out hb4)
      clear hb4
      cases z
      · go_wp2
        go_ret
        exact ⟨rfl, hbd⟩
      · have HBO := ref_Bools a1 a' cap1 c' z1 ((List.range L).map fun i => Nat.testBit T i) wd (H1.out.below hbd (Nat.le_refl _)) (HRT.out.below HAD.out (Nat.le_refl _)) (by have := HE.out; rw [HL1.out]; omega) (by simp; omega)
        rw [HL1.out, bits_list, ← HUN.out rfl, beq_self_eq_true] at HBO
        replace HBO := Lib.hid HBO
        have HBD := Lib.hid hbd
        clear hbd
        go_wp2_with fail
        refine HBO.out.mono ?_
        rintro e we ⟨rfl, hb5⟩
        have hbe := below_two HBD.out hb5
        clear hb5
        go_wp2
        go_ret
        exact ⟨rfl, hbe⟩
    · have d3 : ((len1 : Int) != (L : Int)) = true := by simp; omega
      have d4 : ((len1 : Int) == (L : Int)) = false := by simp; omega
      have d5 : ¬ (len1 : Int) = (L : Int) := by omega
      have hbb := HB2.out
      go_wp2
      go_ret
      exact ⟨rfl, hbb⟩
end Go.Proofs.Yteggmpogcpceeaa
