/- Contracts: shift.Run (of what may be). -/
import Derived.Test.YteggmpogcpceeaaShi2
namespace Go.Proofs.Yteggmpogcpceeaa
open Go.RowKit
set_option linter.unusedVariables false
set_option linter.unusedSimpArgs false
theorem bits_lt (f : Nat → Bool) {I : Nat} (h : I ≤ 64) : Sh.wordOf f I < 18446744073709551616 := word_lt h
set_option maxRecDepth 20000 in
set_option maxHeartbeats 3200000 in
theorem shift_Run (a b : Option Addr) (c d n : Nat) (xs ys : List Bool) (w : World) (h1 : RowT w a c xs) (h2 : RowT w b d ys) (l1 : xs.length = ys.length) (l2 : xs.length ≤ n) (hn : n ≤ 64) :
    Calls Try.prog 9 #[.slice a xs.length c, .slice b ys.length d, .int .i64 n] w fun e w' => (∃ a' c', e = .returned (.tuple #[.slice a' n c', .int .i64 0]) ∧ RowT w' a' c' (Sh.runP (fun i => xs.getD i false) (fun i => ys.getD i false) xs.length n)) ∧ Below w.heap.size w w' := by
  obtain ⟨i0, hi, hz0, hz1, hz2⟩ := info_parts bool_info
  have hu : Try.prog.underlying 22 = some (.slice 4) := by kernel_rfl
  rw [← l1]
  have HW := Lib.hid (shift_word a c xs w h1 (by omega))
  obtain ⟨L, hL⟩ : ∃ L, L = xs.length := ⟨_, rfl⟩
  have HX := Lib.hid hL
  have HY : Hid (L = ys.length) := Lib.hid (hL.trans l1)
  rw [← hL] at l2 HW ⊢
  obtain ⟨t, ht⟩ : ∃ t : Nat → Bool, (fun i => xs.getD i false) = t := ⟨_, rfl⟩
  obtain ⟨f, hf⟩ : ∃ f : Nat → Bool, (fun i => ys.getD i false) = f := ⟨_, rfl⟩
  rw [ht] at HW
  rw [ht, hf]
  have HF := Lib.hid hf
  have H2 := Lib.hid h2
  have HTL := Lib.hid (bits_lt t (I := L) (by omega))
  have HTD : Hid (∃ T, T = Sh.wordOf t L) := Lib.hid ⟨_, rfl⟩
  obtain ⟨T, hT⟩ := HTD.out
  rw [← hT] at HW HTL
  have HTE := Lib.hid hT
  clear hL l1 ht hf h1 h2 HTD hT
  have e1 : ((L : Int) == (L : Int)) = true := by simp
  have e2 : ((L : Int) != (L : Int)) = false := by simp
  go_enter Try.func9, Try.ntmps9
  go_wp2_with fail
  refine HW.out.mono ?_
  rintro e w1 ⟨rfl, rfl⟩
  go_wp2
  go_loopw [9, 10, 32] (fun pv v iv wr => ∃ I : Nat, iv = .int .i64 I ∧ I ≤ n ∧ pv = .int .u64 (Sh.wordOf (Sh.pastF (Sh.runP t f L I) I) I : Nat) ∧ Below w.heap.size w wr ∧ wr.ownsRow w.heap.size 4 1 v I (bV (Sh.runP t f L I))) (fun _ _ iv _ => (n - (intOf iv).toNat))
  case atStart => exact ⟨0, rfl, Nat.zero_le _, rfl, Below.refl _ _, World.ownsRow_nil _ _ _ _⟩
  case round =>
    obtain ⟨I, rfl, hI, rfl, hb, ho⟩ := hrel
    have hz := hb.size
    by_cases hlt : I < n
    · have HE : Hid (bV (Sh.runP t f L I) ++ [.bool (Sh.runB t f L I (Sh.runP t f L I))] = bV (Sh.runP t f L (I + 1))) := Lib.hid (by
        show _ = bV (_ ++ _)
        unfold bV; rw [List.map_append]; rfl)
      have HRL := Lib.hid (Sh.runP_len t f L I)
      have HRB : Hid (Sh.runB t f L I (Sh.runP t f L I) = if I < L then f I else Sh.dot t (fun i => (Sh.runP t f L I).getD (I - 1 - i) false) L) := Lib.hid rfl
      have HPS := Lib.hid (Sh.past_step t f L I)
      have HPL := Lib.hid (bits_lt (Sh.pastF (Sh.runP t f L I) I) (I := I) (by omega))
      have HPL2 := Lib.hid (Sh.wordOf_lt (Sh.pastF (Sh.runP t f L I) I) I)
      have HOD : Hid (L ≤ I → Sh.dot (fun i => (Sh.wordOf (Sh.pastF (Sh.runP t f L I) I) I &&& T).testBit i) (fun _ => true) 64 = Sh.runB t f L I (Sh.runP t f L I)) := Lib.hid fun hc => by
        rw [HTE.out, Sh.odd_and (k := L) (by omega) (by omega) (fun i hi => by rw [decide_eq_false (show ¬ i < L by omega), Bool.and_false, Bool.and_false]) (fun i hi => ⟨by omega, hi⟩), HRB.out, if_neg (by omega), Sh.dot_comm]
        rfl
      obtain ⟨P, hP⟩ : ∃ P, Sh.wordOf (Sh.pastF (Sh.runP t f L I) I) I = P := ⟨_, rfl⟩
      rw [hP] at HPS HPL HPL2 HOD ⊢
      obtain ⟨r, hr⟩ : ∃ r, Sh.runP t f L I = r := ⟨_, rfl⟩
      rw [hr] at HE ho HRL HRB HPS HOD
      obtain ⟨y, hy⟩ : ∃ y, Sh.runB t f L I r = y := ⟨_, rfl⟩
      rw [hy] at HE HRB HPS HOD
      have ea := u64_and_nat P T HPL.out HTL.out
      have hlt2 : P &&& T < 18446744073709551616 := Nat.lt_of_le_of_lt Nat.and_le_left HPL.out
      have HC := Lib.hid fun W => shift_odd (P &&& T) W hlt2
      have hp63 : 2 * P < 18446744073709551616 := by
        have h1 := HPL2.out
        have h2 : 2 ^ I ≤ 2 ^ 63 := Nat.pow_le_pow_right (by omega) (by omega)
        omega
      obtain ⟨Q, hQ⟩ : ∃ Q, P &&& T = Q := ⟨_, rfl⟩
      rw [hQ] at ea HC HOD
      obtain ⟨z, hz'⟩ : ∃ z, Sh.dot (fun i => Q.testBit i) (fun _ => true) 64 = z := ⟨_, rfl⟩
      rw [hz'] at HC HOD
      have es : IntKind.u64.wrap ((P : Int) * 2) = ((2 * P : Nat) : Int) := by
        rw [show ((P : Int) * 2) = ((2 * P : Nat) : Int) by omega]; exact u64_in _ hp63
      have eo : bits .or .u64 ((2 * P : Nat) : Int) 1 = ((2 * P + 1 : Nat) : Int) := by
        have h1 := u64_or_nat (2 * P) 1 hp63 (by omega)
        have h2 := Nat.two_pow_add_eq_or_of_lt (i := 1) (b := 1) (by omega) P
        rw [show ((1 : Nat) : Int) = (1 : Int) from rfl] at h1
        rw [h1]
        congr 1
        simpa using h2.symm
      obtain ⟨P2, hP2⟩ : ∃ P2, 2 * P = P2 := ⟨_, rfl⟩
      rw [hP2] at es eo HPS
      clear hr hy hP hQ hz' hP2 hlt2 hp63
      go_wp2_with fail
      refine (HC.out _).mono ?_
      rintro e w1 ⟨rfl, rfl⟩
      by_cases hc : I < L
      · have HY1 : Hid (y = f I) := Lib.hid (by rw [HRB.out, if_pos hc])
        obtain ⟨x, hx⟩ : ∃ x, ys[I]? = some x := ⟨_, List.getElem?_eq_getElem (by rw [← HY.out]; omega)⟩
        have hxy : x = y := by rw [HY1.out, ← HF.out]; simp [List.getD_eq_getElem?_getD, hx]
        subst hxy
        obtain ⟨b1, o1, rfl, hc1⟩ := (H2.out.below hb (Nat.le_refl _)).shape (by rw [← HY.out]; omega)
        have k1 := hc1 I x hx
        clear hc1 hx HY1
        cases x
        · go_wp2_with (first
            | (at_builtin; refine wpList_append_own _ rfl _ _ 22 rfl w.heap.size 4 i0 (.bool false) 1 1 hu hi hz0 hz1 hz2 rfl (by decide) _ _ _ rfl (ho.alloc _) ⟨wr.heap.size, 0, none⟩ 1 1 [.bool false] rfl rfl (cell_newT _ _ _ rfl) (by simp [Value.oneCell']) (by unfold maxLen; omega) (by omega) (by simp; omega) ?_; intro v' w2 hown' hg2 hnil2; have kk2 := ((hb.alloc hz (.cells #[.bool false] 4)).grown hg2 (by simp; omega) (fun j hj => (ho.lt j hj).1))))
          go_roundw
          case rel => exact ⟨I + 1, by go_num, by omega, by rw [HPS.out]; simp, kk2, by rw [HE.out] at hown'; exact hown'⟩
          case measure => simp [intOf]; omega
        · go_wp2_with (first
            | (at_builtin; refine wpList_append_own _ rfl _ _ 22 rfl w.heap.size 4 i0 (.bool false) 1 1 hu hi hz0 hz1 hz2 rfl (by decide) _ _ _ rfl (ho.alloc _) ⟨wr.heap.size, 0, none⟩ 1 1 [.bool true] rfl rfl (cell_newT _ _ _ rfl) (by simp [Value.oneCell']) (by unfold maxLen; omega) (by omega) (by simp; omega) ?_; intro v' w2 hown' hg2 hnil2; have kk2 := ((hb.alloc hz (.cells #[.bool true] 4)).grown hg2 (by simp; omega) (fun j hj => (ho.lt j hj).1))))
          go_roundw
          case rel => exact ⟨I + 1, by go_num, by omega, by rw [HPS.out]; simp, kk2, by rw [HE.out] at hown'; exact hown'⟩
          case measure => simp [intOf]; omega
      · have hzy : z = y := HOD.out (by omega)
        subst hzy
        clear HOD
        cases z
        · go_wp2_with (first
            | (at_builtin; refine wpList_append_own _ rfl _ _ 22 rfl w.heap.size 4 i0 (.bool false) 1 1 hu hi hz0 hz1 hz2 rfl (by decide) _ _ _ rfl (ho.alloc _) ⟨wr.heap.size, 0, none⟩ 1 1 [.bool false] rfl rfl (cell_newT _ _ _ rfl) (by simp [Value.oneCell']) (by unfold maxLen; omega) (by omega) (by simp; omega) ?_; intro v' w2 hown' hg2 hnil2; have kk2 := ((hb.alloc hz (.cells #[.bool false] 4)).grown hg2 (by simp; omega) (fun j hj => (ho.lt j hj).1))))
          go_roundw
          case rel => exact ⟨I + 1, by go_num, by omega, by rw [HPS.out]; simp, kk2, by rw [HE.out] at hown'; exact hown'⟩
          case measure => simp [intOf]; omega
        · go_wp2_with (first
            | (at_builtin; refine wpList_append_own _ rfl _ _ 22 rfl w.heap.size 4 i0 (.bool false) 1 1 hu hi hz0 hz1 hz2 rfl (by decide) _ _ _ rfl (ho.alloc _) ⟨wr.heap.size, 0, none⟩ 1 1 [.bool true] rfl rfl (cell_newT _ _ _ rfl) (by simp [Value.oneCell']) (by unfold maxLen; omega) (by omega) (by simp; omega) ?_; intro v' w2 hown' hg2 hnil2; have kk2 := ((hb.alloc hz (.cells #[.bool true] 4)).grown hg2 (by simp; omega) (fun j hj => (ho.lt j hj).1))))
          go_roundw
          case rel => exact ⟨I + 1, by go_num, by omega, by rw [HPS.out]; simp, kk2, by rw [HE.out] at hown'; exact hown'⟩
          case measure => simp [intOf]; omega
    · obtain rfl : I = n := by omega
      have hl := Sh.runP_len t f L I
      obtain ⟨a', c', he, hrow⟩ := own_rowT (xs := Sh.runP t f L I) (by rw [hl]; exact ho)
      rw [hl] at he
      subst he
      go_wp2
      go_ret2
      exact ⟨⟨a', c', rfl, hrow⟩, hb⟩
end Go.Proofs.Yteggmpogcpceeaa
