/- The walk of lockwrightkeep.FieldFermat. -/
import Derived.Test.YtkkefbjmdbjbhaaFldW
namespace Go.Proofs.Ytkkefbjmdbjbhaa
open Go.RowKit
set_option linter.unusedVariables false
set_option linter.unusedSimpArgs false
set_option maxRecDepth 100000 in
set_option maxHeartbeats 3200000 in
theorem WFieldFermat (a0 : Int) (a1 : Option Addr) (len1 cap1 : Nat) (z1 : List Int) (a2 : Int) (w : World) (w0 : (Lit.int .i64 a0).wf = true) (w1 : IsRow .i64 w a1 len1 cap1 z1) (w2 : (Lit.int .i64 a2).wf = true) :
    Calls Try.prog 3 #[.int .i64 a0, .slice a1 len1 cap1, .int .i64 a2] w fun e w' => e = .returned (.bool true) ∧ Below w.heap.size w w' := by
  obtain ⟨f, hLf, hf, _, hl⟩ := w1.longs
  clear w0 w1 w2
  have HF := Lib.hid hf
  have HWI := Lib.hid fun ad cd w hf hx => keep_within a0 f [a2] a1 len1 cap1 ad 1 cd w hf hLf hl hx rfl (by omega)
  have hb1 := below_alloc (Below.refl w.heap.size w) (.cells #[.int .i64 a2] 2)
  by_cases he : elE a0 f [a2] = 0
  · rw [decide_eq_true he] at HWI
    obtain ⟨P, m, rfl, hd⟩ := Fd.of (elE_fld he)
    obtain ⟨A, rfl, hA⟩ := hd.el he (x := a2) (by simp)
    have HSZ := Lib.hid fun w => hd.sz hLf a1 cap1 w
    have HRA := Lib.hid fun w h => keep_raised P m f a1 len1 cap1 A (P ^ m) w hd h hLf hA hd.fl.small
    rw [hd.fl.fermat' hd.ir hA] at HRA
    obtain ⟨S, hS⟩ : ∃ S, P ^ m = S := ⟨_, rfl⟩
    rw [hS] at HSZ HRA
    clear hS hA hd he hf hLf hl
    go_enter Try.func3, Try.ntmps3
    go_wp2_with fail
    refine (HWI.out _ 1 _ (HF.out.below hb1 (Nat.le_refl _)) (rowL_one _ _)).mono ?_
    rintro e wa ⟨rfl, hba⟩
    have hbw := below_two hb1 hba
    clear hb1 hba
    go_wp2_with fail
    refine (HSZ.out _).mono ?_
    rintro e wb ⟨rfl, rfl⟩
    go_wp2_with fail
    refine (HRA.out _ (HF.out.below hbw (Nat.le_refl _))).mono ?_
    rintro e wb ⟨rfl, hbb⟩
    have hbz := below_two hbw hbb
    clear hbw hbb
    go_wp2
    go_ret
    exact ⟨by simp, hbz⟩
  · rw [decide_eq_false he] at HWI
    have hne := elE_not he (ys := [a2, a2]) (by simp)
    have HMB := Lib.hid fun w h => field_Mul_bad a0 f a1 len1 cap1 a2 a2 w h hLf hl hne
    obtain ⟨E, hE⟩ : ∃ E, elE a0 f [a2, a2] = E := ⟨_, rfl⟩
    rw [hE] at HMB hne
    have e1 : (E == 0) = false := by simpa using hne
    have e2 : (E != 0) = true := by simpa using hne
    clear he hne hE hf hLf hl
    go_enter Try.func3, Try.ntmps3
    go_wp2_with fail
    refine (HWI.out _ 1 _ (HF.out.below hb1 (Nat.le_refl _)) (rowL_one _ _)).mono ?_
    rintro e wa ⟨rfl, hba⟩
    have hbw := below_two hb1 hba
    clear hb1 hba
    go_wp2_with fail
    refine (HMB.out _ (HF.out.below hbw (Nat.le_refl _))).mono ?_
    rintro e wb ⟨rfl, hbb⟩
    have hbz := below_two hbw hbb
    clear hbw hbb
    go_wp2
    go_ret
    exact ⟨by simp, hbz⟩
end Go.Proofs.Ytkkefbjmdbjbhaa
