/- The walk of ShiftGrows. -/
import Derived.Test.YteggmpogcpceeaaWShi
import Derived.Laws.AppendOwnNone
namespace Go.Proofs.Yteggmpogcpceeaa
open Go.RowKit
set_option linter.unusedVariables false
set_option linter.unusedSimpArgs false
theorem getD_more (z : List Bool) (b : Bool) {i : Nat} (h : i < z.length) : (z ++ [b]).getD i false = z.getD i false := by
  rw [List.getD_eq_getElem?_getD, List.getElem?_append_left h, List.getD_eq_getElem?_getD]
theorem getD_last (z : List Bool) (b : Bool) : (z ++ [b]).getD z.length false = b := by
  rw [List.getD_eq_getElem?_getD, List.getElem?_append_right (Nat.le_refl _)]; simp
set_option maxRecDepth 100000 in
set_option maxHeartbeats 3200000 in
theorem WShiftGrows (a0 : Option Addr) (len0 cap0 : Nat) (z0 : List Bool) (a1 : Bool) (w : World) (w0 : IsRowT w a0 len0 cap0 z0) :
    Calls Try.prog 4 #[.slice a0 len0 cap0, .bool a1] w fun e w' => e = .returned (.bool true) ∧ Below w.heap.size w w' := by
  obtain ⟨l0, c0, h0⟩ := w0
  by_cases hl : 64 ≤ len0
  · have d1 : decide (64 ≤ (len0 : Int)) = true := decide_eq_true (by omega)
    clear l0 h0
    go_enter Try.func4, Try.ntmps4
    go_wp2
    go_ret
    exact ⟨rfl, Below.refl _ _⟩
  · obtain ⟨i0, hi, hz0, hz1, hz2⟩ := info_parts bool_info
    have hu : Try.prog.underlying 22 = some (.slice 4) := by kernel_rfl
    have d1 : decide (64 ≤ (len0 : Int)) = false := decide_eq_false (by omega)
    have H0 := Lib.hid h0
    have HL0 := Lib.hid l0
    have HC0 := Lib.hid c0
    have hown0 : (w.alloc (.cells #[] 4)).ownsRow w.heap.size 4 1 (.slice (some ⟨w.heap.size, 0, none⟩) 0 0) 0 [] := own_of (Nat.le_refl _) rfl (MapKept.heap_alloc w _).1
    have hb0 : Below w.heap.size w (w.alloc (.cells #[] 4)) := (Below.refl _ _).alloc (Nat.le_refl _) _
    rcases a0 with _ | ad
    · have hz0e := (h0.1 rfl).1
      have hlen0 : len0 = 0 := by rw [← l0, hz0e]; rfl
      have hcap0 : cap0 = 0 := (h0.1 rfl).2
      subst hz0e hlen0 hcap0
      clear h0 l0 c0
      go_enter Try.func4, Try.ntmps4
      go_wp2_with (first
        | (at_builtin; (refine wpList_append_own_none rfl _ _ 22 rfl w.heap.size 4 i0 1 hu hi _ _ _ rfl hown0 rfl ?_))
        | (at_builtin; refine wpList_append_own _ rfl _ _ 22 rfl w.heap.size 4 i0 (.bool false) 1 1 hu hi hz0 hz1 hz2 rfl (by decide) _ _ _ rfl (hown0.alloc _) ⟨w.heap.size + 1, 0, none⟩ 1 1 [.bool a1] rfl rfl (by have := cell_newT (w.alloc (.cells #[] 4)) (.bool a1) 4 rfl; simpa using this) (by simp [Value.oneCell']) (by unfold maxLen; omega) (by omega) (by simp; omega) ?_; intro v3 w3 hown3 hg3 hnil3; have kb3 := (hb0.alloc hb0.size (.cells #[.bool a1] 4)).grown hg3 (by simp; omega) (fun j hj => (hown0.lt j hj).1)))
      have HMR : Hid (∃ am cm, v3 = .slice am (0 + 1) cm ∧ RowT w3 am cm (([] : List Bool) ++ [a1]) ∧ cm ≤ maxLen) := Lib.hid (by
        have hlen : (([] : List Bool) ++ [a1]).length = 0 + 1 := by rw [List.length_append, HL0.out]; rfl
        have hrw : w3.ownsRow w.heap.size 4 1 v3 (([] : List Bool) ++ [a1]).length (bV (([] : List Bool) ++ [a1])) := by
          rw [hlen]
          simpa [bV] using hown3
        rw [hlen] at hrw
        obtain ⟨g, cm, e, _, _, _, hcm⟩ := own_shape hrw (by omega)
        rw [e] at hrw
        exact ⟨_, cm, e, row_ownT hrw, hcm⟩)
      have HB3 := Lib.hid kb3
      obtain ⟨am, cm, rfl, hrm, hcm⟩ := HMR.out
      have HCM := Lib.hid hcm
      have HRM := Lib.hid hrm
      have HC := shift_Short _ 0 ([] : List Bool) w3 (H0.out.below kb3 (Nat.le_refl _)) (by rw [HL0.out]; omega)
      rw [HL0.out] at HC
      replace HC := Lib.hid HC
      clear hrm hcm hown3 kb3 HMR hg3 hnil3 hown0 hb0
      refine HC.out.mono ?_
      rintro e wa ⟨⟨a', c', L, T, rfl, hrow, hmk, C, B, k, hI⟩, hb4⟩
      have hLe := hI.le
      have HBA := Lib.hid (below_two HB3.out hb4)
      have HRT := Lib.hid hrow
      have HMK0 := Lib.hid hmk
      have HI := Lib.hid hI
      have HRM2 := Lib.hid (HRM.out.below hb4 (Nat.le_refl _))
      have hml : (([] : List Bool) ++ [a1]).length = 0 + 1 := by rw [List.length_append, HL0.out]; rfl
      have HML := Lib.hid hml
      have HD := shift_Short am cm (([] : List Bool) ++ [a1]) wa HRM2.out (by rw [hml]; omega)
      rw [hml] at HD
      replace HD := Lib.hid HD
      clear hrow hmk hI hb4 hml
      go_wp2_with fail
      refine HD.out.mono ?_
      rintro e wb ⟨⟨a2', c2', U, T2, rfl, hrow2, hmk2, C2, B2, k2, hI2⟩, hb5⟩
      have hUe := hI2.le
      have HBB := Lib.hid (below_two HBA.out hb5)
      have HGR : Hid ((mkB ((List.range L).map fun i => Nat.testBit T i) (([] : List Bool) ++ [a1]) = true → U = L) ∧ (mkB ((List.range L).map fun i => Nat.testBit T i) (([] : List Bool) ++ [a1]) = false → U = max L (0 + 1 - L))) := Lib.hid (by
        have hs : ∀ i, i < 0 → ([] : List Bool).getD i false = (([] : List Bool) ++ [a1]).getD i false := fun i hi => (getD_more ([] : List Bool) a1 (by rw [HL0.out]; exact hi)).symm
        have hI' := HI.out.congr (s' := fun i => (([] : List Bool) ++ [a1]).getD i false) hs
        have hm' : Sh.Mk (fun i => Nat.testBit T i) L (fun i => (([] : List Bool) ++ [a1]).getD i false) 0 := HMK0.out.congr (fun _ _ => rfl) hs
        obtain ⟨g1, g2⟩ := Sh.grows hI' hI2.min hm'
        have hiff : mkB ((List.range L).map fun i => Nat.testBit T i) (([] : List Bool) ++ [a1]) = true ↔ Sh.Mk (fun i => Nat.testBit T i) L (fun i => (([] : List Bool) ++ [a1]).getD i false) (0 + 1) := by
          rw [mkB_iff, HML.out, bits_list]
          constructor
          · exact fun h => h.2.congr (fun i hi => bits_getD T L hi) (fun _ _ => rfl)
          · exact fun h => ⟨by omega, h.congr (fun i hi => (bits_getD T L hi).symm) (fun _ _ => rfl)⟩
        constructor
        · intro h
          exact g1 (((Sh.Mk.step hLe).1 (hiff.1 h)).2).symm
        · intro h
          refine g2 fun e => ?_
          rw [hiff.2 (hm'.succ fun _ => e)] at h
          cases h)
      have HMK := keep_makes a' am c' cm ((List.range L).map fun i => Nat.testBit T i) (([] : List Bool) ++ [a1]) wb (HRT.out.below hb5 (Nat.le_refl _)) (HRM2.out.below hb5 (Nat.le_refl _)) (by simp; omega) (by rw [HML.out]; omega) HCM.out
      rw [bits_list, HML.out] at HMK
      obtain ⟨z, hz⟩ : ∃ z, mkB ((List.range L).map fun i => Nat.testBit T i) (([] : List Bool) ++ [a1]) = z := ⟨_, rfl⟩
      rw [hz] at HMK HGR
      replace HMK := Lib.hid HMK
      clear hrow2 hmk2 hI2 hb5 hz
      have d2 : decide ((0 : Int) < (L : Int)) = false := decide_eq_false (by omega)
      have m1 : IntKind.i64.wrap ((0 : Int) + 1) = (0 : Int) + 1 := IntWalk.i64_in _ (by omega)
      have m2 : IntKind.i64.wrap ((0 : Int) + 1 - (L : Int)) = (0 : Int) + 1 - L := IntWalk.i64_in _ (by omega)
      go_wp2_with fail
      refine HMK.out.mono ?_
      rintro e wc ⟨rfl, hb6⟩
      have hbc := below_two HBB.out hb6
      clear hb6
      cases z
      · have hU := HGR.out.2 rfl
        by_cases hlt : 0 + 1 - L < L
        · exfalso; omega
        · have d3 : decide ((0 : Int) + 1 - L < (L : Int)) = false := decide_eq_false (by omega)
          have d4 : ((U : Int) == 1 - (L : Int)) = true := by simp; omega
          clear hU
          go_wp2
          go_ret
          exact ⟨rfl, hbc⟩
      · have hU : U = L := HGR.out.1 rfl
        have d4 : ((U : Int) == (L : Int)) = true := by simp; omega
        clear hU
        go_wp2
        go_ret
        exact ⟨rfl, hbc⟩
    · have hcells : ∀ (j : Nat) (u : Value), (bV z0)[j]? = some u → (w.alloc (.cells #[] 4)).cell? (ad.add j) = some u := (h0.below hb0 (Nat.le_refl _)).2.1 ad rfl
      have hbl : (bV z0).length = len0 * 1 := by rw [bV_len, l0, Nat.mul_one]
      have hone := bV_one z0
      clear h0 l0 c0
      go_enter Try.func4, Try.ntmps4
      go_wp2_with (first
        | (at_builtin; refine wpList_append_own _ rfl _ _ 22 rfl w.heap.size 4 i0 (.bool false) 1 1 hu hi hz0 hz1 hz2 rfl (by decide) _ _ _ rfl hown0 ad len0 cap0 (bV z0) rfl hbl hcells hone (by unfold maxLen; omega) (by omega) (by simp) ?_; intro v2 w2 hown2 hg2 hnil2; have kb2 := hb0.grown hg2 (by simp) (fun j hj => (hown0.lt j hj).1))
        | (at_builtin; refine wpList_append_own _ rfl _ _ 22 rfl w.heap.size 4 i0 (.bool false) 1 1 hu hi hz0 hz1 hz2 rfl (by decide) _ _ _ rfl (hown2.alloc _) ⟨w2.heap.size, 0, none⟩ 1 1 [.bool a1] rfl rfl (cell_newT _ _ _ rfl) (by simp [Value.oneCell']) (by unfold maxLen; omega) (by omega) (by have := kb2.size; simp; omega) ?_; intro v3 w3 hown3 hg3 hnil3; have kb3 := (kb2.alloc kb2.size (.cells #[.bool a1] 4)).grown hg3 (by have := kb2.size; simp; omega) (fun j hj => (hown2.lt j hj).1)))
      have HMR : Hid (∃ am cm, v3 = .slice am (len0 + 1) cm ∧ RowT w3 am cm (z0 ++ [a1]) ∧ cm ≤ maxLen) := Lib.hid (by
        have hlen : (z0 ++ [a1]).length = len0 + 1 := by rw [List.length_append, HL0.out]; rfl
        have hrw : w3.ownsRow w.heap.size 4 1 v3 (z0 ++ [a1]).length (bV (z0 ++ [a1])) := by
          rw [hlen]
          simpa [bV] using hown3
        rw [hlen] at hrw
        obtain ⟨g, cm, e, _, _, _, hcm⟩ := own_shape hrw (by omega)
        rw [e] at hrw
        exact ⟨_, cm, e, row_ownT hrw, hcm⟩)
      have HB3 := Lib.hid kb3
      obtain ⟨am, cm, rfl, hrm, hcm⟩ := HMR.out
      have HCM := Lib.hid hcm
      have HRM := Lib.hid hrm
      have HC := shift_Short _ cap0 z0 w3 (H0.out.below kb3 (Nat.le_refl _)) (by rw [HL0.out]; omega)
      rw [HL0.out] at HC
      replace HC := Lib.hid HC
      clear hrm hcm hown3 kb3 HMR hcells hbl hone hown2 hg2 hg3 kb2 hnil2 hnil3 hown0 hb0
      refine HC.out.mono ?_
      rintro e wa ⟨⟨a', c', L, T, rfl, hrow, hmk, C, B, k, hI⟩, hb4⟩
      have hLe := hI.le
      have HBA := Lib.hid (below_two HB3.out hb4)
      have HRT := Lib.hid hrow
      have HMK0 := Lib.hid hmk
      have HI := Lib.hid hI
      have HRM2 := Lib.hid (HRM.out.below hb4 (Nat.le_refl _))
      have hml : (z0 ++ [a1]).length = len0 + 1 := by rw [List.length_append, HL0.out]; rfl
      have HML := Lib.hid hml
      have HD := shift_Short am cm (z0 ++ [a1]) wa HRM2.out (by rw [hml]; omega)
      rw [hml] at HD
      replace HD := Lib.hid HD
      clear hrow hmk hI hb4 hml
      go_wp2_with fail
      refine HD.out.mono ?_
      rintro e wb ⟨⟨a2', c2', U, T2, rfl, hrow2, hmk2, C2, B2, k2, hI2⟩, hb5⟩
      have hUe := hI2.le
      have HBB := Lib.hid (below_two HBA.out hb5)
      have HGR : Hid ((mkB ((List.range L).map fun i => Nat.testBit T i) (z0 ++ [a1]) = true → U = L) ∧ (mkB ((List.range L).map fun i => Nat.testBit T i) (z0 ++ [a1]) = false → U = max L (len0 + 1 - L))) := Lib.hid (by
        have hs : ∀ i, i < len0 → z0.getD i false = (z0 ++ [a1]).getD i false := fun i hi => (getD_more z0 a1 (by rw [HL0.out]; exact hi)).symm
        have hI' := HI.out.congr (s' := fun i => (z0 ++ [a1]).getD i false) hs
        have hm' : Sh.Mk (fun i => Nat.testBit T i) L (fun i => (z0 ++ [a1]).getD i false) len0 := HMK0.out.congr (fun _ _ => rfl) hs
        obtain ⟨g1, g2⟩ := Sh.grows hI' hI2.min hm'
        have hiff : mkB ((List.range L).map fun i => Nat.testBit T i) (z0 ++ [a1]) = true ↔ Sh.Mk (fun i => Nat.testBit T i) L (fun i => (z0 ++ [a1]).getD i false) (len0 + 1) := by
          rw [mkB_iff, HML.out, bits_list]
          constructor
          · exact fun h => h.2.congr (fun i hi => bits_getD T L hi) (fun _ _ => rfl)
          · exact fun h => ⟨by omega, h.congr (fun i hi => (bits_getD T L hi).symm) (fun _ _ => rfl)⟩
        constructor
        · intro h
          exact g1 (((Sh.Mk.step hLe).1 (hiff.1 h)).2).symm
        · intro h
          refine g2 fun e => ?_
          rw [hiff.2 (hm'.succ fun _ => e)] at h
          cases h)
      have HMK := keep_makes a' am c' cm ((List.range L).map fun i => Nat.testBit T i) (z0 ++ [a1]) wb (HRT.out.below hb5 (Nat.le_refl _)) (HRM2.out.below hb5 (Nat.le_refl _)) (by simp; omega) (by rw [HML.out]; omega) HCM.out
      rw [bits_list, HML.out] at HMK
      obtain ⟨z, hz⟩ : ∃ z, mkB ((List.range L).map fun i => Nat.testBit T i) (z0 ++ [a1]) = z := ⟨_, rfl⟩
      rw [hz] at HMK HGR
      replace HMK := Lib.hid HMK
      clear hrow2 hmk2 hI2 hb5 hz
      have d2 : decide ((len0 : Int) < (L : Int)) = false := decide_eq_false (by omega)
      have m1 : IntKind.i64.wrap ((len0 : Int) + 1) = (len0 : Int) + 1 := IntWalk.i64_in _ (by omega)
      have m2 : IntKind.i64.wrap ((len0 : Int) + 1 - (L : Int)) = (len0 : Int) + 1 - L := IntWalk.i64_in _ (by omega)
      go_wp2_with fail
      refine HMK.out.mono ?_
      rintro e wc ⟨rfl, hb6⟩
      have hbc := below_two HBB.out hb6
      clear hb6
      cases z
      · have hU := HGR.out.2 rfl
        by_cases hlt : len0 + 1 - L < L
        · have d3 : decide ((len0 : Int) + 1 - L < (L : Int)) = true := decide_eq_true (by omega)
          have d4 : ((U : Int) == (L : Int)) = true := by simp; omega
          clear hU
          go_wp2
          go_ret
          exact ⟨rfl, hbc⟩
        · have d3 : decide ((len0 : Int) + 1 - L < (L : Int)) = false := decide_eq_false (by omega)
          have d4 : ((U : Int) == (len0 : Int) + 1 - L) = true := by simp; omega
          clear hU
          go_wp2
          go_ret
          exact ⟨rfl, hbc⟩
      · have hU : U = L := HGR.out.1 rfl
        have d4 : ((U : Int) == (L : Int)) = true := by simp; omega
        clear hU
        go_wp2
        go_ret
        exact ⟨rfl, hbc⟩
end Go.Proofs.Yteggmpogcpceeaa
