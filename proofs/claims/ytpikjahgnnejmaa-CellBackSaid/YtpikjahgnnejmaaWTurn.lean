/- The walk of the statement CellTurned. -/
import Derived.Test.YtpikjahgnnejmaaRd
namespace Go.Proofs.Ytpikjahgnnejmaa
open Go.RowKit
set_option linter.unusedVariables false
set_option linter.unusedSimpArgs false
theorem lit2_inj {a b : Nat} (ha : a < 65536) (hb : b < 65536) (h : litN a 2 = litN b 2) : a = b := by
  simp only [litN, List.cons.injEq] at h
  omega
theorem fits_set {k n i x : Nat} {xs : List Nat} (hl : xs.length ≤ 14) (hx : ∀ y ∈ xs, y < 256) (hi : i < 17) (h8 : x < 256) (hne : (cellN k n xs)[i]? ≠ some x) : fitsB k n ((cellN k n xs).set i x) = false := by
  have lb := bodyN_len hl
  have lc := csumN_len k n (bodyN xs)
  unfold fitsB
  rw [beq_eq_false_iff_ne]
  by_cases h15 : i < 15
  · have e1 : ((cellN k n xs).set i x).drop 15 = csumN k n (bodyN xs) := by
      unfold cellN
      rw [List.set_append_left _ _ (by omega), List.drop_append_of_le_length (by rw [List.length_set]; omega), List.drop_eq_nil_of_le (by rw [List.length_set]; omega), List.nil_append]
    have e2 : ((cellN k n xs).set i x).take 15 = (bodyN xs).set i x := by
      unfold cellN
      rw [List.set_append_left _ _ (by omega), List.take_append_of_le_length (by rw [List.length_set]; omega), List.take_of_length_le (by rw [List.length_set]; omega)]
    rw [e1, e2]
    intro h
    have h2 := lit2_inj (sumN_lt _) (sumN_lt _) h
    have e3 : nameN k n ++ (bodyN xs).set i x = (nameN k n ++ bodyN xs).set (6 + i) x := by
      rw [List.set_append_right _ _ (by rw [nameN_len]; omega), nameN_len, Nat.add_sub_cancel_left]
    rw [e3] at h2
    have h3 := (sum_set (by rw [List.length_append, nameN_len]; omega) h8 (fun y hy => by
      rcases List.mem_append.1 hy with h | h
      · exact nameN_lt _ _ y h
      · exact bodyN_lt hl hx y h)).1 h2
    apply hne
    unfold cellN
    rw [List.getElem?_append_left (by omega)]
    have h4 := congrArg (fun l => l[6 + i]?) h3
    rw [List.getElem?_append_right (by rw [nameN_len]; omega), nameN_len, Nat.add_sub_cancel_left, List.getElem?_set_self (by rw [List.length_append, nameN_len]; omega)] at h4
    exact h4
  · have e1 : ((cellN k n xs).set i x).drop 15 = (csumN k n (bodyN xs)).set (i - 15) x := by
      unfold cellN
      rw [List.set_append_right _ _ (by omega), lb, List.drop_append_of_le_length (by omega), List.drop_eq_nil_of_le (by omega), List.nil_append]
    have e2 : ((cellN k n xs).set i x).take 15 = bodyN xs := by
      unfold cellN
      rw [List.set_append_right _ _ (by omega), List.take_append_of_le_length (by omega), List.take_of_length_le (by omega)]
    rw [e1, e2]
    intro h
    apply hne
    unfold cellN
    rw [List.getElem?_append_right (by omega), lb, ← h, List.getElem?_set_self (by omega)]
theorem Make_no (k n : Int) (a : Option Addr) (c L : Nat) (w : World) (ho : outB k n = true ∨ (outB k n = false ∧ 14 < L)) (hL : L ≤ maxLen) :
    Calls Try.prog 19 #[.int .i64 k, .int .i64 n, .slice a L c] w fun e w' => (∃ t : Int, ¬ t = 0 ∧ e = .returned (.tuple #[.slice none 0 0, .int .i64 t])) ∧ w = w' := by
  unfold maxLen at hL
  rcases ho with ho | ⟨ho, hne⟩
  · have HO := Lib.hid ho
    clear ho
    go_enter Try.func19, Try.ntmps19
    go_wp2_with fail
    refine (cell_out _ _ _).mono ?_
    rintro e w' ⟨rfl, rfl⟩
    rw [HO.out]
    clear HO
    go_wp2
    go_ret2
    exact ⟨⟨2, by omega, rfl⟩, rfl⟩
  · have HO := Lib.hid ho
    have e1 : decide (14 < (L : Int)) = true := decide_eq_true (by omega)
    clear ho
    go_enter Try.func19, Try.ntmps19
    go_wp2_with fail
    refine (cell_out _ _ _).mono ?_
    rintro e w' ⟨rfl, rfl⟩
    rw [HO.out]
    clear HO
    go_wp2
    go_ret2
    exact ⟨⟨1, by omega, rfl⟩, rfl⟩
set_option maxRecDepth 100000 in
set_option maxHeartbeats 3200000 in
theorem WCellTurned (a0 : Int) (a1 : Int) (a2 : Option Addr) (len2 cap2 : Nat) (z2 : List Int) (a3 : Int) (a4 : Int) (w : World) (w0 : (Lit.int .i64 a0).wf = true) (w1 : (Lit.int .i64 a1).wf = true) (w2 : IsRow .u8 w a2 len2 cap2 z2) (w3 : (Lit.int .u16 a3).wf = true) (w4 : (Lit.int .u8 a4).wf = true) :
    Calls Try.prog 8 #[.int .i64 a0, .int .i64 a1, .slice a2 len2 cap2, .int .u16 a3, .int .u8 a4] w fun e w' => e = .returned (.bool true) ∧ Below w.heap.size w w' := by
  obtain ⟨xs, hlen, hrow, hxs, hmax⟩ := w2.bytes
  have k3 : 0 ≤ a3 ∧ a3 ≤ 65535 := by simpa [Lit.wf, IntKind.min, IntKind.max, IntKind.signed, go_sem] using w3
  have x4 := wf8 w4
  clear w0 w1 w2 w3 w4
  have HC := Lib.hid fun w => ref_CellCheck a0 a1 w
  by_cases hbad : outB a0 a1 = true ∨ (outB a0 a1 = false ∧ 14 < len2)
  · have HM := Lib.hid fun w => Make_no a0 a1 a2 cap2 len2 w hbad hmax
    unfold maxLen at hmax
    obtain ⟨o, hob⟩ : ∃ o, outB a0 a1 = o := ⟨_, rfl⟩
    rw [hob] at hbad HC
    clear hob hrow hxs hlen
    have HD := Lib.hid hbad
    clear hbad
    go_enter Try.func8, Try.ntmps8
    go_wp2_with fail
    refine (HM.out _).mono ?_
    rintro e w' ⟨⟨t, ht, rfl⟩, rfl⟩
    have t1 : (t == 0) = false := by simpa using ht
    have t2 : (t != 0) = true := by simpa using ht
    go_wp2_with fail
    refine (HC.out _).mono ?_
    rintro e w' ⟨rfl, rfl⟩
    rcases HD.out with rfl | ⟨rfl, hne⟩
    · go_wp2
      go_ret
      exact ⟨ret_bool (by simp), Below.refl _ _⟩
    · have e1 : decide (14 < (len2 : Int)) = true := decide_eq_true (by omega)
      go_wp2
      go_ret
      exact ⟨ret_bool (by simp), Below.refl _ _⟩
  · have ho : outB a0 a1 = false := by
      by_cases h : outB a0 a1 = true
      · exact absurd (.inl h) hbad
      · simpa using h
    have hl : len2 ≤ 14 := by
      by_cases h : 14 < len2
      · exact absurd (.inr ⟨ho, h⟩) hbad
      · omega
    clear hbad hmax
    subst hlen
    rw [ho] at HC
    obtain ⟨h1, h2, h3, h4⟩ := outB_no.1 ho
    obtain ⟨k, rfl⟩ := Int.eq_ofNat_of_zero_le h1
    obtain ⟨n, rfl⟩ := Int.eq_ofNat_of_zero_le h3
    obtain ⟨x, rfl⟩ := Int.eq_ofNat_of_zero_le x4.1
    obtain ⟨I, hI1, hI2⟩ : ∃ I : Nat, Int.tmod a3 17 = (I : Int) ∧ I < 17 := by
      have b1 := Int.emod_nonneg a3 (show (17 : Int) ≠ 0 by omega)
      have b2 := Int.emod_lt_of_pos a3 (show 0 < (17 : Int) by omega)
      exact ⟨(a3 % 17).toNat, by rw [Int.tmod_eq_emod_of_nonneg k3.1]; omega, by omega⟩
    have HM := Lib.hid (cell_Make k n a2 cap2 xs w (by omega) (by omega) hrow hl hxs)
    have hk : k < 65536 := by omega
    have hn : n ≤ 2147483648 := by omega
    have HF := Lib.hid fun (hne : (cellN k n xs)[I]? ≠ some x) => fits_set (k := k) (n := n) (i := I) (x := x) hl hxs hI2 (by omega) hne
    have hcl := cellN_len (k := k) (n := n) hl
    have hcx := cellN_lt (k := k) (n := n) hl hxs
    obtain ⟨cs, hcs⟩ : ∃ cs, cellN k n xs = cs := ⟨_, rfl⟩
    rw [hcs] at HM HF hcl hcx
    obtain ⟨y, hy⟩ : ∃ y, cs[I]? = some y := ⟨_, List.getElem?_eq_getElem (by omega)⟩
    have HY := Lib.hid hy
    have HCL := Lib.hid hcl
    have HCX := Lib.hid hcx
    obtain ⟨L, hL⟩ : ∃ L, xs.length = L := ⟨_, rfl⟩
    rw [hL] at HM hl ⊢
    have hI3 : a3 % 17 = (I : Int) := by rw [← hI1, Int.tmod_eq_emod_of_nonneg k3.1]
    have d1 : decide (14 < (L : Int)) = false := decide_eq_false (by omega)
    clear hcs hy hcl hcx hL ho hrow hxs h1 h2 h3 h4
    go_enter Try.func8, Try.ntmps8
    go_wp2_with fail
    refine HM.out.mono ?_
    rintro e w1 ⟨v, rfl, hb1, hr1⟩
    obtain ⟨g, cap, rfl, hg1, hg2, hg3, hg4⟩ := own_shape hr1 (by omega)
    have ky := own_cell hr1 (i := I) (u := .int .u8 (y : Nat)) (by simp [byV, HY.out])
    have fy := own_frozen hr1 I
    have hr2 := own_set hr1 hI2 (.int .u8 (x : Nat))
    have hb2 : Below w.heap.size w (w1.setCell ⟨g, I, none⟩ (.int .u8 (x : Nat))) := hb1.setCell (p := ⟨g, I, none⟩) hg1 _
    have HR2 : Hid (RowB (w1.setCell ⟨g, I, none⟩ (.int .u8 (x : Nat))) (some ⟨g, 0, none⟩) cap (cs.set I x)) := Lib.hid (row_own (by rw [show byV (cs.set I x) = (byV cs).set I (.int .u8 (x : Nat)) by simp [byV, List.map_set]]; exact hr2))
    clear hr1 hr2 HM
    go_wp2_with fail
    refine (HC.out _).mono ?_
    rintro e w' ⟨rfl, rfl⟩
    by_cases hxy : y = x
    · subst hxy
      have e1 : ((y : Int) == (y : Int)) = true := by simp
      go_wp2
      go_ret
      exact ⟨ret_bool (by simp), hb1⟩
    · have e1 : ((y : Int) == (x : Int)) = false := by rw [beq_eq_false_iff_ne]; omega
      have e2 : ¬ (y : Int) = (x : Int) := by omega
      have hf := HF.out (by rw [HY.out]; intro e; exact hxy (Option.some.inj e))
      have HRd := Lib.hid (Read_sum k n g 0 cap (cs.set I x) _ hk hn HR2.out (by rw [List.length_set]; exact HCL.out) hg3 (fun z hz => by
        rcases List.mem_or_eq_of_mem_set hz with h | h
        · exact HCX.out z h
        · omega) hf)
      clear hf
      go_wp2_with fail
      refine HRd.out.mono ?_
      rintro e w3 ⟨rfl, hb3⟩
      go_wp2
      go_ret
      exact ⟨ret_bool (by simp), below_two hb2 hb3⟩
end Go.Proofs.Ytpikjahgnnejmaa
