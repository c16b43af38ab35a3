/- The walk of PolyRoots. -/
import Derived.Test.YtfgmnlphejpcaaaAt
namespace Go.Proofs.Ytfgmnlphejpcaaa
open Go.RowKit
set_option linter.unusedVariables false
set_option linter.unusedSimpArgs false
theorem roots_law {P : Nat} {xs : List Int} (g : Good P xs) (h : 0 < xs.length) : cnt P (fun i => valL P xs i == 0) ≤ xs.length - 1 := by
  have hp : M.Pr P := by simpa using prB_true g.prime.2.2
  have h1 := roots_le hp (xs.length - 1) xs (by omega) (by
    obtain ⟨k, hk⟩ : ∃ k, xs.length = k + 1 := ⟨xs.length - 1, by omega⟩
    have hl := g.last
    rw [getLastD_at (L := k) (x := xs[k]) (List.getElem?_eq_getElem (by omega)) hk] at hl ⊢
    have := g.rng _ (List.getElem_mem (show k < xs.length by omega))
    rw [Int.emod_eq_of_lt this.1 this.2]; exact hl)
  simpa only [valL_ev] using h1
set_option maxRecDepth 100000 in
set_option maxHeartbeats 6400000 in
theorem WPolyRoots (a0 : Int) (a1 : Option Addr) (len1 cap1 : Nat) (z1 : List Int) (w : World) (w0 : (Lit.int .i64 a0).wf = true) (w1 : IsRow .i64 w a1 len1 cap1 z1) :
    Calls Try.prog 3 #[.int .i64 a0, .slice a1 len1 cap1] w fun e w' => e = .returned (.bool true) ∧ Below w.heap.size w w' := by
  obtain ⟨xs, e1, h1, _, m1⟩ := w1.longs
  clear w0 w1 z1
  unfold maxLen at m1
  have HR := Lib.hid h1
  have E1 := Lib.hid e1
  by_cases h0 : polyE a0 xs = 0
  · have g := polyE_zero.1 h0
    have hp := g.prime
    obtain ⟨P, rfl⟩ := Int.eq_ofNat_of_zero_le (show 0 ≤ a0 by omega)
    have H0 := Lib.hid h0
    have hl := g.len
    have HAt := Lib.hid fun (I : Nat) (w' : World) (hI : I < P) (h : RowL w' a1 cap1 xs) => poly_At P I a1 cap1 xs w' g h (by omega) (by omega)
    have HLaw : Hid (0 < len1 → cnt P (fun i => valL P xs i == 0) ≤ len1 - 1) := Lib.hid (by rw [← e1]; exact fun h => roots_law g h)
    have HAll : Hid (len1 = 0 → cnt P (fun i => valL P xs i == 0) = P) := Lib.hid fun h => cnt_all fun i hi => by
      have : xs = [] := List.eq_nil_of_length_eq_zero (e1.trans h)
      subst this
      simp [valL_ev, ev]
    have HSt := Lib.hid fun I => show cnt (I + 1) (fun i => valL P xs i == 0) = cnt I (fun i => valL P xs i == 0) + if (valL P xs I == 0) = true then 1 else 0 from rfl
    have HVal := Lib.hid fun (I : Nat) (hI : I < P) => show valL P xs ((I : Int) % P) = valL P xs I by rw [Int.emod_eq_of_lt (by omega) (by omega)]
    have HC := Lib.hid fun I => show cnt I (fun i => valL P xs i == 0) ≤ I from by
      induction I with
      | zero => exact Nat.le_refl _
      | succ I ih => unfold cnt; split <;> omega
    obtain ⟨F, hF⟩ : ∃ F : Nat → Nat, (fun I => cnt I (fun i => valL P xs i == 0)) = F := ⟨_, rfl⟩
    have HF : ∀ I, cnt I (fun i => valL P xs i == 0) = F I := fun I => congrFun hF I
    simp only [HF] at HLaw HAll HSt HC
    have HF0 : Hid (F 0 = 0) := Lib.hid (by rw [← HF]; rfl)
    have p1 := hp.1
    have p2 := hp.2.1
    rw [e1] at hl HAt
    clear e1 hF HF h0 g hp h1
    go_enter Try.func3, Try.ntmps3
    go_wp2_with fail
    refine (sound_one' true E1.out (by omega) HR.out (by rw [H0.out]; rfl)).mono ?_
    rintro e w1 ⟨rfl, hb1⟩
    go_wp2
    go_loopw [6, 5] (fun s r wr => ∃ I : Nat, s = .int .i64 I ∧ r = .int .i64 (F I : Nat) ∧ I ≤ P ∧ Below w.heap.size w wr) (fun s _ _ => P - (intOf s).toNat)
    case atStart => exact ⟨0, rfl, by rw [HF0.out]; rfl, Nat.zero_le _, hb1⟩
    case round =>
      obtain ⟨I, rfl, rfl, hI, hb⟩ := hrel
      have hFI := HC.out I
      by_cases hlt : I < P
      · have HA := Lib.hid (HAt.out I wr hlt (HR.out.below hb (Nat.le_refl _)))
        have hS := HSt.out I
        rw [HVal.out I hlt] at HA
        obtain ⟨y, hy⟩ : ∃ y, valL P xs I = y := ⟨_, rfl⟩
        rw [hy] at HA hS
        have HS := Lib.hid hS
        clear hS hy
        by_cases hy0 : y = 0
        · subst hy0
          go_wp2_with fail
          refine HA.out.mono ?_
          rintro e w2 ⟨rfl, hb2⟩
          go_wp2
          go_round
          case rel => exact ⟨I + 1, by go_num, by rw [HS.out]; simp, by omega, below_two hb hb2⟩
          case measure => simp [intOf]; omega
        · have HS2 : Hid (F (I + 1) = F I) := Lib.hid (by rw [HS.out, if_neg (by simpa using hy0)]; omega)
          have e2 : (y == 0) = false := by simpa using hy0
          clear hy0 HS
          go_wp2_with fail
          refine HA.out.mono ?_
          rintro e w2 ⟨rfl, hb2⟩
          go_wp2
          go_round
          case rel => exact ⟨I + 1, by go_num, by rw [HS2.out], by omega, below_two hb hb2⟩
          case measure => simp [intOf]; omega
      · obtain rfl : I = P := by omega
        rcases Nat.eq_zero_or_pos len1 with hz | hz
        · have e5 := HAll.out hz
          subst hz
          rw [e5]
          go_wp2
          go_ret
          exact ⟨rfl, hb⟩
        · have e5 := HLaw.out hz
          go_wp2
          go_ret
          exact ⟨ret_bool (by simp; omega), hb⟩
  · have HC := Lib.hid fun w' h => poly_Check a0 a1 cap1 xs w' h (by rw [e1]; unfold maxLen; omega)
    have H0 := Lib.hid h0
    obtain ⟨t, ht⟩ : ∃ t, polyE a0 xs = t := ⟨_, rfl⟩
    rw [ht, e1] at HC
    rw [ht] at h0
    have e2 : (t == 0) = false := by simpa using h0
    have e3 : (t != 0) = true := by simpa using h0
    clear e1 ht h0
    go_enter Try.func3, Try.ntmps3
    go_wp2_with fail
    refine (sound_one' false E1.out (by omega) HR.out (by rw [decide_eq_false H0.out])).mono ?_
    rintro e w1 ⟨rfl, hb1⟩
    go_wp2_with fail
    refine (HC.out _ (HR.out.below hb1 (Nat.le_refl _))).mono ?_
    rintro e w2 ⟨rfl, hb2⟩
    go_wp2
    go_ret
    exact ⟨rfl, below_two hb1 hb2⟩
end Go.Proofs.Ytfgmnlphejpcaaa
