/- The walk of lockwrightkeep.FieldFrobenius. -/
import Derived.Test.YtkkefbjmdbjbhaaFldW
namespace Go.Proofs.Ytkkefbjmdbjbhaa
open Go.RowKit
set_option linter.unusedVariables false
set_option linter.unusedSimpArgs false
set_option maxRecDepth 100000 in
set_option maxHeartbeats 3200000 in
theorem WFieldFrobenius (a0 : Int) (a1 : Option Addr) (len1 cap1 : Nat) (z1 : List Int) (a2 : Int) (a3 : Int) (w : World) (w0 : (Lit.int .i64 a0).wf = true) (w1 : IsRow .i64 w a1 len1 cap1 z1) (w2 : (Lit.int .i64 a2).wf = true) (w3 : (Lit.int .i64 a3).wf = true) :
    Calls Try.prog 5 #[.int .i64 a0, .slice a1 len1 cap1, .int .i64 a2, .int .i64 a3] w fun e w' => e = .returned (.bool true) ∧ Below w.heap.size w w' := by
  obtain ⟨f, hLf, hf, _, hl⟩ := w1.longs
  clear w0 w1 w2 w3
  have HF := Lib.hid hf
  have HWI := Lib.hid fun ad cd w hf hx => keep_within a0 f [a2, a3] a1 len1 cap1 ad 2 cd w hf hLf hl hx rfl (by omega)
  by_cases he : elE a0 f [a2, a3] = 0
  · rw [decide_eq_true he] at HWI
    obtain ⟨P, m, rfl, hd⟩ := Fd.of (elE_fld he)
    obtain ⟨A, rfl, hA⟩ := hd.el he (x := a2) (by simp)
    obtain ⟨B, rfl, hB⟩ := hd.el he (x := a3) (by simp)
    have hS := hd.fl.add_lt hA hB
    have HAD := Lib.hid fun w h => field_Add P m f a1 len1 cap1 A B w hd.fl h hLf hl he
    have HRA := Lib.hid fun w h => keep_raised P m f a1 len1 cap1 A P w hd h hLf hA (by have := hd.fl.p251; omega)
    have HRB := Lib.hid fun w h => keep_raised P m f a1 len1 cap1 B P w hd h hLf hB (by have := hd.fl.p251; omega)
    have HRS := Lib.hid fun w h => keep_raised P m f a1 len1 cap1 (addF P A B) P w hd h hLf hS (by have := hd.fl.p251; omega)
    have HR1 := Lib.hid fun w h => keep_raised P m f a1 len1 cap1 1 P w hd h hLf hd.fl.one_lt (by have := hd.fl.p251; omega)
    have HAD2 := Lib.hid fun w h => field_Add P m f a1 len1 cap1 (powF P f A P) (powF P f B P) w hd.fl h hLf hl (hd.two (hd.fl.pow_lt _ _) (hd.fl.pow_lt _ _))
    rw [hd.fl.frobenius] at HRS
    rw [hd.fl.one_pow] at HR1
    obtain ⟨S, hSe⟩ : ∃ S, addF P A B = S := ⟨_, rfl⟩
    obtain ⟨x, hxe⟩ : ∃ S, powF P f A P = S := ⟨_, rfl⟩
    obtain ⟨y, hye⟩ : ∃ S, powF P f B P = S := ⟨_, rfl⟩
    obtain ⟨z, hze⟩ : ∃ S, addF P (powF P f A P) (powF P f B P) = S := ⟨_, rfl⟩
    rw [hze] at HRS HAD2
    rw [hSe] at HAD HRS
    rw [hxe] at HRA HAD2
    rw [hye] at HRB HAD2
    clear he hA hB hd hf hLf hl hS hSe hxe hye hze
    have d1 : decide ((0 : Int) ≤ (x : Int)) = true := decide_eq_true (by omega)
    have d2 : decide ((0 : Int) ≤ (y : Int)) = true := decide_eq_true (by omega)
    go_enter Try.func5, Try.ntmps5
    go_wp2_with fail
    refine (HAD.out _ HF.out).mono ?_
    rintro e wa ⟨rfl, hba⟩
    have hb1 := below_alloc hba (.cells #[.int .i64 A, .int .i64 B] 2)
    clear hba
    go_wp2_with fail
    refine (HWI.out _ 2 _ (HF.out.below hb1 (Nat.le_refl _)) (rowL_two _ _ _)).mono ?_
    rintro e wb ⟨rfl, hbb⟩
    have hb2 := below_two hb1 hbb
    clear hb1 hbb
    go_wp2_with fail
    refine (HRA.out _ (HF.out.below hb2 (Nat.le_refl _))).mono ?_
    rintro e wc ⟨rfl, hbc⟩
    have hb3 := below_two hb2 hbc
    clear hb2 hbc
    go_wp2_with fail
    refine (HRB.out _ (HF.out.below hb3 (Nat.le_refl _))).mono ?_
    rintro e wd ⟨rfl, hbd⟩
    have hb4 := below_two hb3 hbd
    clear hb3 hbd
    go_wp2_with fail
    refine (HRS.out _ (HF.out.below hb4 (Nat.le_refl _))).mono ?_
    rintro e we ⟨rfl, hbe⟩
    have hb5 := below_two hb4 hbe
    clear hb4 hbe
    go_wp2_with fail
    refine (HAD2.out _ (HF.out.below hb5 (Nat.le_refl _))).mono ?_
    rintro e wf ⟨rfl, hbf⟩
    have hb6 := below_two hb5 hbf
    clear hb5 hbf
    go_wp2_with fail
    refine (HR1.out _ (HF.out.below hb6 (Nat.le_refl _))).mono ?_
    rintro e wg ⟨rfl, hbg⟩
    have hbz := below_two hb6 hbg
    clear hb6 hbg
    go_wp2
    go_ret
    exact ⟨by simp, hbz⟩
  · rw [decide_eq_false he] at HWI
    have HMB := Lib.hid fun w h => field_Add_bad a0 f a1 len1 cap1 a2 a3 w h hLf hl he
    obtain ⟨E, hE⟩ : ∃ E, elE a0 f [a2, a3] = E := ⟨_, rfl⟩
    rw [hE] at HMB he
    have e1 : (E == 0) = false := by simpa using he
    have e2 : (E != 0) = true := by simpa using he
    clear he hE hf hLf hl
    go_enter Try.func5, Try.ntmps5
    go_wp2_with fail
    refine (HMB.out _ HF.out).mono ?_
    rintro e wa ⟨rfl, hba⟩
    have hb1 := below_alloc hba (.cells #[.int .i64 a2, .int .i64 a3] 2)
    clear hba
    go_wp2_with fail
    refine (HWI.out _ 2 _ (HF.out.below hb1 (Nat.le_refl _)) (rowL_two _ _ _)).mono ?_
    rintro e wb ⟨rfl, hbb⟩
    have hbz := below_two hb1 hbb
    clear hb1 hbb
    go_wp2
    go_ret
    exact ⟨by simp, hbz⟩
end Go.Proofs.Ytkkefbjmdbjbhaa
