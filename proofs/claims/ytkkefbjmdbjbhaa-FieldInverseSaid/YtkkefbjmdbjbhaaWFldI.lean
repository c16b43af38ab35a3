/- The walk of lockwrightkeep.FieldInverse. -/
import Derived.Test.YtkkefbjmdbjbhaaFldW
namespace Go.Proofs.Ytkkefbjmdbjbhaa
open Go.RowKit
set_option linter.unusedVariables false
set_option linter.unusedSimpArgs false
set_option maxHeartbeats 3200000 in
theorem field_Inv_zero (P m : Nat) (f : List Int) (af : Option Addr) (Lf cf : Nat) (w : World) (hg : Fld P f m) (hf : RowL w af cf f) (hLf : f.length = Lf) (hl : Lf ≤ maxLen) (h : elE P f [(0 : Int)] = 0) :
    Calls Try.prog 13 #[.int .i64 P, .slice af Lf cf, .int .i64 0] w fun e w' => e = .returned (.tuple #[.int .i64 0, .int .i64 5]) ∧ Below w.heap.size w w' := by
  have HC := Lib.hid fun ad cd w hf hx => field_elements P f [(0 : Int)] af Lf cf ad 1 cd w hf hLf hl hx rfl (by omega)
  have HF := Lib.hid hf
  unfold maxLen at hl
  rw [h, elE_fld h] at HC
  have HOK := Lib.hid fun fv ho => opv_ok (P := P) (m := m) (f := f) hg (af := af) (Lf := Lf) (cf := cf) (fv := fv) ho
  clear h hf hLf hg
  go_enter Try.func13, Try.ntmps13
  go_wp2_with fail
  have hbw : Below w.heap.size w (w.alloc (.cells #[.int .i64 0] 2)) := (Below.refl _ _).alloc (Nat.le_refl _) _
  refine (HC.out _ 1 _ (HF.out.below hbw (Nat.le_refl _)) ?r1).mono ?_
  case r1 => exact rowL_one _ _
  rintro e w2 ⟨⟨fv, rfl, ho⟩, hb2⟩
  obtain rfl := HOK.out fv ho
  have hb3 := below_two hbw hb2
  clear ho hb2 hbw
  obtain ⟨S, hS⟩ : ∃ S, P ^ m = S := ⟨_, rfl⟩
  simp only [hS]
  have hb4 := below_alloc hb3 (.cells #[.int .i64 P, .int .i64 S, .slice af Lf cf] 38)
  clear hS
  go_wp2
  go_ret2
  exact ⟨rfl, hb4⟩
set_option maxRecDepth 100000 in
set_option maxHeartbeats 3200000 in
theorem WFieldInverse (a0 : Int) (a1 : Option Addr) (len1 cap1 : Nat) (z1 : List Int) (a2 : Int) (w : World) (w0 : (Lit.int .i64 a0).wf = true) (w1 : IsRow .i64 w a1 len1 cap1 z1) (w2 : (Lit.int .i64 a2).wf = true) :
    Calls Try.prog 6 #[.int .i64 a0, .slice a1 len1 cap1, .int .i64 a2] w fun e w' => e = .returned (.bool true) ∧ Below w.heap.size w w' := by
  obtain ⟨f, hLf, hf, _, hl⟩ := w1.longs
  clear w0 w1 w2
  have HF := Lib.hid hf
  have HWI := Lib.hid fun ad cd w hf hx => keep_within a0 f [a2] a1 len1 cap1 ad 1 cd w hf hLf hl hx rfl (by omega)
  by_cases he : elE a0 f [a2] = 0
  · rw [decide_eq_true he] at HWI
    obtain ⟨P, m, rfl, hd⟩ := Fd.of (elE_fld he)
    obtain ⟨A, rfl, hA⟩ := hd.el he (x := a2) (by simp)
    by_cases h0 : A = 0
    · subst h0
      have HIV := Lib.hid fun w h => field_Inv_zero P m f a1 len1 cap1 w hd.fl h hLf hl he
      clear he hA hd hf hLf hl
      go_enter Try.func6, Try.ntmps6
      go_wp2_with fail
      refine (HIV.out _ HF.out).mono ?_
      rintro e wa ⟨rfl, hba⟩
      have hb1 := below_alloc hba (.cells #[.int .i64 0] 2)
      clear hba
      go_wp2_with fail
      refine (HWI.out _ 1 _ (HF.out.below hb1 (Nat.le_refl _)) (rowL_one _ _)).mono ?_
      rintro e wb ⟨rfl, hbb⟩
      have hbz := below_two hb1 hbb
      clear hb1 hbb
      go_wp2
      go_ret
      exact ⟨by simp, hbz⟩
    · have hI : powF P f A (P ^ m - 2) < P ^ m := hd.fl.pow_lt _ _
      have hI0 : powF P f A (P ^ m - 2) ≠ 0 := hd.fl.pow_ne hd.ir hA h0 _
      have HIV := Lib.hid fun w h => field_Inv P m f a1 len1 cap1 A w hd.fl h hLf hl he h0
      have HMU := Lib.hid fun w h => field_Mul P m f a1 len1 cap1 A (powF P f A (P ^ m - 2)) w hd.fl h hLf hl (hd.two hA hI)
      have HII := Lib.hid fun w h => field_Inv P m f a1 len1 cap1 (powF P f A (P ^ m - 2)) w hd.fl h hLf hl (hd.one hI) hI0
      rw [hd.fl.inv_pow hd.ir hA h0] at HMU
      rw [hd.fl.inv_inv hd.ir hA h0] at HII
      obtain ⟨I, hIe⟩ : ∃ I, powF P f A (P ^ m - 2) = I := ⟨_, rfl⟩
      rw [hIe] at HIV HMU HII
      clear he hA hd hf hLf hl hI hI0 hIe
      have z1 : ((A : Int) == 0) = false := by simp; omega
      have z2 : ¬ (A : Int) = 0 := by omega
      have HNZ := Lib.hid h0
      clear h0
      go_enter Try.func6, Try.ntmps6
      go_wp2_with fail
      refine (HIV.out _ HF.out).mono ?_
      rintro e wa ⟨rfl, hba⟩
      have hb1 := below_alloc hba (.cells #[.int .i64 A] 2)
      clear hba
      go_wp2_with fail
      refine (HWI.out _ 1 _ (HF.out.below hb1 (Nat.le_refl _)) (rowL_one _ _)).mono ?_
      rintro e wb ⟨rfl, hbb⟩
      have hb2 := below_two hb1 hbb
      clear hb1 hbb
      have z3 := HNZ.out
      go_wp2_with fail
      refine (HMU.out _ (HF.out.below hb2 (Nat.le_refl _))).mono ?_
      rintro e wc ⟨rfl, hbc⟩
      have hb3 := below_two hb2 hbc
      clear hb2 hbc
      go_wp2_with fail
      refine (HII.out _ (HF.out.below hb3 (Nat.le_refl _))).mono ?_
      rintro e we ⟨rfl, hbe⟩
      have hbz := below_two hb3 hbe
      clear hb3 hbe
      go_wp2
      go_ret
      exact ⟨by simp, hbz⟩
  · rw [decide_eq_false he] at HWI
    have HMB := Lib.hid fun w h => field_Inv_bad a0 f a1 len1 cap1 a2 w h hLf hl he
    obtain ⟨E, hE⟩ : ∃ E, elE a0 f [a2] = E := ⟨_, rfl⟩
    rw [hE] at HMB he
    have e1 : (E == 0) = false := by simpa using he
    have e2 : (E != 0) = true := by simpa using he
    clear he hE hf hLf hl
    go_enter Try.func6, Try.ntmps6
    go_wp2_with fail
    refine (HMB.out _ HF.out).mono ?_
    rintro e wa ⟨rfl, hba⟩
    have hb1 := below_alloc hba (.cells #[.int .i64 a2] 2)
    clear hba
    go_wp2_with fail
    refine (HWI.out _ 1 _ (HF.out.below hb1 (Nat.le_refl _)) (rowL_one _ _)).mono ?_
    rintro e wb ⟨rfl, hbb⟩
    have hbz := below_two hb1 hbb
    clear hb1 hbb
    go_wp2
    go_ret
    exact ⟨by simp, hbz⟩
end Go.Proofs.Ytkkefbjmdbjbhaa
