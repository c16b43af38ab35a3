/- The walk of lockwrightkeep.FieldAlgebra (printed by gen/wfla.py). -/
import Derived.Test.YtkkefbjmdbjbhaaFldW
namespace Go.Proofs.Ytkkefbjmdbjbhaa
open Go.RowKit
set_option linter.unusedVariables false
set_option linter.unusedSimpArgs false
set_option maxRecDepth 100000 in
set_option maxHeartbeats 6400000 in
theorem WFieldAlgebra (a0 : Int) (a1 : Option Addr) (len1 cap1 : Nat) (z1 : List Int) (a2 : Int) (a3 : Int) (a4 : Int) (w : World) (w0 : (Lit.int .i64 a0).wf = true) (w1 : IsRow .i64 w a1 len1 cap1 z1) (w2 : (Lit.int .i64 a2).wf = true) (w3 : (Lit.int .i64 a3).wf = true) (w4 : (Lit.int .i64 a4).wf = true) :
    Calls Try.prog 4 #[.int .i64 a0, .slice a1 len1 cap1, .int .i64 a2, .int .i64 a3, .int .i64 a4] w fun e w' => e = .returned (.bool true) ∧ Below w.heap.size w w' := by
  obtain ⟨f, hLf, hf, _, hl⟩ := w1.longs
  clear w0 w1 w2 w3 w4
  have HF := Lib.hid hf
  have HWI := Lib.hid fun ad cd w hf hx => keep_within a0 f [a2, a3] a1 len1 cap1 ad 2 cd w hf hLf hl hx rfl (by omega)
  have HWC := Lib.hid fun ad cd w hf hx => keep_within a0 f [a4] a1 len1 cap1 ad 1 cd w hf hLf hl hx rfl (by omega)
  by_cases he : elE a0 f [a2, a3] = 0
  · rw [decide_eq_true he] at HWI
    obtain ⟨P, m, rfl, hd⟩ := Fd.of (elE_fld he)
    obtain ⟨A, rfl, hA⟩ := hd.el he (x := a2) (by simp)
    obtain ⟨B, rfl, hB⟩ := hd.el he (x := a3) (by simp)
    have hS := hd.fl.add_lt hA hB
    have hM := hd.fl.mul_lt A B
    have HAD := Lib.hid fun w h => field_Add P m f a1 len1 cap1 A B w hd.fl h hLf hl he
    have HMU := Lib.hid fun w h => field_Mul P m f a1 len1 cap1 A B w hd.fl h hLf hl he
    have HAE := Lib.hid fun w h => field_Add P m f a1 len1 cap1 B A w hd.fl h hLf hl (hd.two hB hA)
    have HMV := Lib.hid fun w h => field_Mul P m f a1 len1 cap1 B A w hd.fl h hLf hl (hd.two hB hA)
    have HMO := Lib.hid fun w h => field_Mul P m f a1 len1 cap1 1 A w hd.fl h hLf hl (hd.two hd.fl.one_lt hA)
    rw [hd.fl.add_comm B A] at HAE
    rw [hd.fl.mul_comm B A] at HMV
    rw [hd.fl.one_mul hA] at HMO
    by_cases hc : elE P f [a4] = 0
    · rw [decide_eq_true hc] at HWC
      obtain ⟨C, rfl, hC⟩ := hd.el hc (x := a4) (by simp)
      have HBC := Lib.hid fun w h => field_Mul P m f a1 len1 cap1 B C w hd.fl h hLf hl (hd.two hB hC)
      have HAC := Lib.hid fun w h => field_Mul P m f a1 len1 cap1 A C w hd.fl h hLf hl (hd.two hA hC)
      have HX := Lib.hid fun w h => field_Mul P m f a1 len1 cap1 (mulF P f A B) C w hd.fl h hLf hl (hd.two hM hC)
      have HY := Lib.hid fun w h => field_Mul P m f a1 len1 cap1 A (mulF P f B C) w hd.fl h hLf hl (hd.two hA (hd.fl.mul_lt _ _))
      have HU := Lib.hid fun w h => field_Mul P m f a1 len1 cap1 (addF P A B) C w hd.fl h hLf hl (hd.two hS hC)
      have HV := Lib.hid fun w h => field_Add P m f a1 len1 cap1 (mulF P f A C) (mulF P f B C) w hd.fl h hLf hl (hd.two (hd.fl.mul_lt _ _) (hd.fl.mul_lt _ _))
      rw [hd.fl.mul_assoc] at HX
      rw [hd.fl.dist hA hB] at HU
      obtain ⟨bc, e1⟩ : ∃ S, mulF P f B C = S := ⟨_, rfl⟩
      obtain ⟨ac, e2⟩ : ∃ S, mulF P f A C = S := ⟨_, rfl⟩
      rw [e1] at HBC HX HY HU HV
      rw [e2] at HAC HU HV
      obtain ⟨x, e3⟩ : ∃ S, mulF P f A bc = S := ⟨_, rfl⟩
      obtain ⟨v, e4⟩ : ∃ S, addF P ac bc = S := ⟨_, rfl⟩
      rw [e3] at HX HY
      rw [e4] at HU HV
      obtain ⟨s, e5⟩ : ∃ S, addF P A B = S := ⟨_, rfl⟩
      obtain ⟨n, e6⟩ : ∃ S, mulF P f A B = S := ⟨_, rfl⟩
      rw [e5] at HAD HAE HU
      rw [e6] at HMU HMV HX
      clear e1 e2 e3 e4 e5 e6 he hc hA hB hC hd hf hLf hl hS hM
      go_enter Try.func4, Try.ntmps4
      go_wp2_with fail
      refine (HAD.out _ HF.out).mono ?_
      rintro e wx1 ⟨rfl, hx1⟩
      have hb1 := hx1
      clear hx1
      go_wp2_with fail
      refine (HMU.out _ (HF.out.below hb1 (Nat.le_refl _))).mono ?_
      rintro e wx2 ⟨rfl, hx2⟩
      have hb2 := below_two hb1 hx2
      clear hx2
      clear hb1
      go_wp2_with fail
      have hz3 := below_alloc hb2 (.cells #[.int .i64 A, .int .i64 B] 2)
      refine (HWI.out _ 2 _ (HF.out.below hz3 (Nat.le_refl _)) (rowL_two _ _ _)).mono ?_
      rintro e wx3 ⟨rfl, hx3⟩
      have hb3 := below_two hz3 hx3
      clear hx3 hz3
      clear hb2
      go_wp2_with fail
      refine (HAE.out _ (HF.out.below hb3 (Nat.le_refl _))).mono ?_
      rintro e wx4 ⟨rfl, hx4⟩
      have hb4 := below_two hb3 hx4
      clear hx4
      clear hb3
      go_wp2_with fail
      refine (HMV.out _ (HF.out.below hb4 (Nat.le_refl _))).mono ?_
      rintro e wx5 ⟨rfl, hx5⟩
      have hb5 := below_two hb4 hx5
      clear hx5
      clear hb4
      go_wp2_with fail
      refine (HMO.out _ (HF.out.below hb5 (Nat.le_refl _))).mono ?_
      rintro e wx6 ⟨rfl, hx6⟩
      have hb6 := below_two hb5 hx6
      clear hx6
      clear hb5
      go_wp2_with fail
      have hz7 := below_alloc hb6 (.cells #[.int .i64 C] 2)
      refine (HWC.out _ 1 _ (HF.out.below hz7 (Nat.le_refl _)) (rowL_one _ _)).mono ?_
      rintro e wx7 ⟨rfl, hx7⟩
      have hb7 := below_two hz7 hx7
      clear hx7 hz7
      clear hb6
      go_wp2_with fail
      refine (HBC.out _ (HF.out.below hb7 (Nat.le_refl _))).mono ?_
      rintro e wx8 ⟨rfl, hx8⟩
      have hb8 := below_two hb7 hx8
      clear hx8
      clear hb7
      go_wp2_with fail
      refine (HAC.out _ (HF.out.below hb8 (Nat.le_refl _))).mono ?_
      rintro e wx9 ⟨rfl, hx9⟩
      have hb9 := below_two hb8 hx9
      clear hx9
      clear hb8
      go_wp2_with fail
      refine (HX.out _ (HF.out.below hb9 (Nat.le_refl _))).mono ?_
      rintro e wx10 ⟨rfl, hx10⟩
      have hb10 := below_two hb9 hx10
      clear hx10
      clear hb9
      go_wp2_with fail
      refine (HY.out _ (HF.out.below hb10 (Nat.le_refl _))).mono ?_
      rintro e wx11 ⟨rfl, hx11⟩
      have hb11 := below_two hb10 hx11
      clear hx11
      clear hb10
      go_wp2_with fail
      refine (HU.out _ (HF.out.below hb11 (Nat.le_refl _))).mono ?_
      rintro e wx12 ⟨rfl, hx12⟩
      have hb12 := below_two hb11 hx12
      clear hx12
      clear hb11
      go_wp2_with fail
      refine (HV.out _ (HF.out.below hb12 (Nat.le_refl _))).mono ?_
      rintro e wx13 ⟨rfl, hx13⟩
      have hb13 := below_two hb12 hx13
      clear hx13
      clear hb12
      go_wp2
      go_ret
      exact ⟨by simp, hb13⟩
    · rw [decide_eq_false hc] at HWC
      obtain ⟨s, e5⟩ : ∃ S, addF P A B = S := ⟨_, rfl⟩
      obtain ⟨n, e6⟩ : ∃ S, mulF P f A B = S := ⟨_, rfl⟩
      rw [e5] at HAD HAE
      rw [e6] at HMU HMV
      clear e5 e6 he hc hA hB hd hf hLf hl hS hM
      go_enter Try.func4, Try.ntmps4
      go_wp2_with fail
      refine (HAD.out _ HF.out).mono ?_
      rintro e wx1 ⟨rfl, hx1⟩
      have hb1 := hx1
      clear hx1
      go_wp2_with fail
      refine (HMU.out _ (HF.out.below hb1 (Nat.le_refl _))).mono ?_
      rintro e wx2 ⟨rfl, hx2⟩
      have hb2 := below_two hb1 hx2
      clear hx2
      clear hb1
      go_wp2_with fail
      have hz3 := below_alloc hb2 (.cells #[.int .i64 A, .int .i64 B] 2)
      refine (HWI.out _ 2 _ (HF.out.below hz3 (Nat.le_refl _)) (rowL_two _ _ _)).mono ?_
      rintro e wx3 ⟨rfl, hx3⟩
      have hb3 := below_two hz3 hx3
      clear hx3 hz3
      clear hb2
      go_wp2_with fail
      refine (HAE.out _ (HF.out.below hb3 (Nat.le_refl _))).mono ?_
      rintro e wx4 ⟨rfl, hx4⟩
      have hb4 := below_two hb3 hx4
      clear hx4
      clear hb3
      go_wp2_with fail
      refine (HMV.out _ (HF.out.below hb4 (Nat.le_refl _))).mono ?_
      rintro e wx5 ⟨rfl, hx5⟩
      have hb5 := below_two hb4 hx5
      clear hx5
      clear hb4
      go_wp2_with fail
      refine (HMO.out _ (HF.out.below hb5 (Nat.le_refl _))).mono ?_
      rintro e wx6 ⟨rfl, hx6⟩
      have hb6 := below_two hb5 hx6
      clear hx6
      clear hb5
      go_wp2_with fail
      have hz7 := below_alloc hb6 (.cells #[.int .i64 a4] 2)
      refine (HWC.out _ 1 _ (HF.out.below hz7 (Nat.le_refl _)) (rowL_one _ _)).mono ?_
      rintro e wx7 ⟨rfl, hx7⟩
      have hb7 := below_two hz7 hx7
      clear hx7 hz7
      clear hb6
      go_wp2
      go_ret
      exact ⟨by simp, hb7⟩
  · rw [decide_eq_false he] at HWI
    have HAB := Lib.hid fun w h => field_Add_bad a0 f a1 len1 cap1 a2 a3 w h hLf hl he
    have HMB := Lib.hid fun w h => field_Mul_bad a0 f a1 len1 cap1 a2 a3 w h hLf hl he
    obtain ⟨E, hE⟩ : ∃ E, elE a0 f [a2, a3] = E := ⟨_, rfl⟩
    rw [hE] at HAB HMB he
    have e1 : (E == 0) = false := by simpa using he
    have e2 : (E != 0) = true := by simpa using he
    clear he hE hf hLf hl
    go_enter Try.func4, Try.ntmps4
    go_wp2_with fail
    refine (HAB.out _ HF.out).mono ?_
    rintro e wx1 ⟨rfl, hx1⟩
    have hb1 := hx1
    clear hx1
    go_wp2_with fail
    refine (HMB.out _ (HF.out.below hb1 (Nat.le_refl _))).mono ?_
    rintro e wx2 ⟨rfl, hx2⟩
    have hb2 := below_two hb1 hx2
    clear hx2
    clear hb1
    go_wp2_with fail
    have hz3 := below_alloc hb2 (.cells #[.int .i64 a2, .int .i64 a3] 2)
    refine (HWI.out _ 2 _ (HF.out.below hz3 (Nat.le_refl _)) (rowL_two _ _ _)).mono ?_
    rintro e wx3 ⟨rfl, hx3⟩
    have hb3 := below_two hz3 hx3
    clear hx3 hz3
    clear hb2
    go_wp2
    go_ret
    exact ⟨by simp, hb3⟩
end Go.Proofs.Ytkkefbjmdbjbhaa
