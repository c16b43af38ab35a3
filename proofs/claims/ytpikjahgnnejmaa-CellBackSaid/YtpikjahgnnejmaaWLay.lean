/- The walk of the statement CellLayers. -/
import Derived.Test.YtpikjahgnnejmaaLay
namespace Go.Proofs.Ytpikjahgnnejmaa
open Go.RowKit
set_option linter.unusedVariables false
set_option linter.unusedSimpArgs false
theorem layN_back (k n : Nat) (xs : List Nat) : layN k n (layN k n xs) = xs := by
  apply List.ext_getElem?
  intro i
  rw [layN_get, layN_get, Option.map_map]
  cases xs[i]? with
  | none => simp only [Option.map_none]
  | some x => simp [Nat.xor_assoc]
theorem layN_comm (j m k n : Nat) (xs : List Nat) : layN k n (layN j m xs) = layN j m (layN k n xs) := by
  apply List.ext_getElem?
  intro i
  rw [layN_get, layN_get, layN_get, layN_get, Option.map_map, Option.map_map]
  cases xs[i]? with
  | none => simp only [Option.map_none]
  | some x =>
    show some (x ^^^ turnN j m i ^^^ turnN k n i) = some (x ^^^ turnN k n i ^^^ turnN j m i)
    rw [Nat.xor_assoc, Nat.xor_comm (turnN j m i), ← Nat.xor_assoc]
theorem Layer_yes (k n : Int) (a : Option Addr) (c : Nat) (xs : List Nat) (w : World) (ho : outB k n = false) (h : RowB w a c xs) (hl : xs.length = 17) (hx : ∀ x ∈ xs, x < 256) :
    Calls Try.prog 17 #[.int .i64 k, .int .i64 n, .slice a 17 c] w fun e w' => ∃ a' c', e = .returned (.tuple #[.slice a' 17 c', .int .i64 0]) ∧ Below w.heap.size w w' ∧ RowB w' a' c' (layN k.toNat n.toNat xs) := by
  obtain ⟨h1, h2, h3, h4⟩ := outB_no.1 ho
  have H := cell_Layer k.toNat n.toNat a c xs w (by omega) (by omega) h hl hx
  rw [Int.toNat_of_nonneg h1, Int.toNat_of_nonneg h3, hl] at H
  refine H.mono ?_
  rintro e w' ⟨v, rfl, hb, hr⟩
  have l1 : (layN k.toNat n.toNat xs).length = 17 := by rw [layN_len]; exact hl
  obtain ⟨a2, c2, rfl, h2, _⟩ : ∃ a c, v = .slice a (layN k.toNat n.toNat xs).length c ∧ RowB w' a c (layN k.toNat n.toNat xs) ∧ ∀ ad, a = some ad → ∃ g, ad = ⟨g, 0, none⟩ := own_rowB (by rw [l1]; exact hr)
  rw [l1]
  exact ⟨a2, c2, rfl, hb, h2⟩
theorem Layer_no (k n : Int) (a : Option Addr) (c L : Nat) (w : World) (ho : outB k n = true ∨ (outB k n = false ∧ L ≠ 17)) (hL : L ≤ maxLen) :
    Calls Try.prog 17 #[.int .i64 k, .int .i64 n, .slice a L c] w fun e w' => (∃ t : Int, ¬ t = 0 ∧ e = .returned (.tuple #[.slice none 0 0, .int .i64 t])) ∧ w = w' := by
  unfold maxLen at hL
  rcases ho with ho | ⟨ho, hne⟩
  · have HO := Lib.hid ho
    clear ho
    go_enter Try.func17, Try.ntmps17
    go_wp2_with fail
    refine (cell_out _ _ _).mono ?_
    rintro e w' ⟨rfl, rfl⟩
    rw [HO.out]
    clear HO
    go_wp2
    go_ret2
    exact ⟨⟨2, by omega, rfl⟩, rfl⟩
  · have HO := Lib.hid ho
    have e1 : ((L : Int) != 17) = true := by simp; omega
    have e2 : ¬ (L : Int) = 17 := by omega
    clear ho
    go_enter Try.func17, Try.ntmps17
    go_wp2_with fail
    refine (cell_out _ _ _).mono ?_
    rintro e w' ⟨rfl, rfl⟩
    rw [HO.out]
    clear HO
    go_wp2
    go_ret2
    exact ⟨⟨4, by omega, rfl⟩, rfl⟩
theorem Layer_any (k n : Int) (a : Option Addr) (c : Nat) (xs : List Nat) (w : World) (h : RowB w a c xs) (hL : xs.length ≤ maxLen) (hx : ∀ x ∈ xs, x < 256) :
    Calls Try.prog 17 #[.int .i64 k, .int .i64 n, .slice a xs.length c] w fun e w' => (∃ v t, e = .returned (.tuple #[v, .int .i64 t])) ∧ Below w.heap.size w w' := by
  by_cases ho : outB k n = true
  · exact (Layer_no k n a c xs.length w (.inl ho) hL).mono fun e w' ⟨⟨t, _, he⟩, hw⟩ => ⟨⟨_, t, he⟩, hw ▸ Below.refl _ _⟩
  · have ho : outB k n = false := by simpa using ho
    by_cases hl : xs.length = 17
    · rw [hl]
      exact (Layer_yes k n a c xs w ho h hl hx).mono fun e w' ⟨a', c', he, hb, _⟩ => ⟨⟨_, 0, he⟩, hb⟩
    · exact (Layer_no k n a c xs.length w (.inr ⟨ho, hl⟩) hL).mono fun e w' ⟨⟨t, _, he⟩, hw⟩ => ⟨⟨_, t, he⟩, hw ▸ Below.refl _ _⟩
set_option maxRecDepth 100000 in
set_option maxHeartbeats 3200000 in
theorem WCellLayers (a0 : Int) (a1 : Int) (a2 : Int) (a3 : Int) (a4 : Option Addr) (len4 cap4 : Nat) (z4 : List Int) (w : World) (w0 : (Lit.int .i64 a0).wf = true) (w1 : (Lit.int .i64 a1).wf = true) (w2 : (Lit.int .i64 a2).wf = true) (w3 : (Lit.int .i64 a3).wf = true) (w4 : IsRow .u8 w a4 len4 cap4 z4) :
    Calls Try.prog 6 #[.int .i64 a0, .int .i64 a1, .int .i64 a2, .int .i64 a3, .slice a4 len4 cap4] w fun e w' => e = .returned (.bool true) ∧ Below w.heap.size w w' := by
  obtain ⟨xs, hlen, hrow, hxs, hmax⟩ := w4.bytes
  clear w0 w1 w2 w3 w4
  by_cases hbad : outB a0 a2 = true ∨ (outB a0 a2 = false ∧ len4 ≠ 17)
  · have HL := Lib.hid fun w => Layer_no a0 a2 a4 cap4 len4 w hbad hmax
    have HA := Lib.hid fun w' (hb : Below w.heap.size w w') => Layer_any a1 a3 a4 cap4 xs w' (hrow.below hb (Nat.le_refl _)) (by rw [hlen]; exact hmax) hxs
    rw [hlen] at HA
    unfold maxLen at hmax
    obtain ⟨o, hob⟩ : ∃ o, outB a0 a2 = o := ⟨_, rfl⟩
    rw [hob] at hbad
    have HC := Lib.hid fun w => ref_CellCheck a0 a2 w
    rw [hob] at HC
    clear hob hrow hxs hlen
    have HD := Lib.hid hbad
    clear hbad
    go_enter Try.func6, Try.ntmps6
    go_wp2_with fail
    refine (HL.out _).mono ?_
    rintro e w' ⟨⟨t, ht, rfl⟩, rfl⟩
    have t1 : (t == 0) = false := by simpa using ht
    have t2 : (t != 0) = true := by simpa using ht
    go_wp2_with fail
    refine (HA.out _ (Below.refl _ _)).mono ?_
    rintro e w1 ⟨⟨v, t', rfl⟩, hb1⟩
    go_wp2_with fail
    refine (HC.out _).mono ?_
    rintro e w' ⟨rfl, rfl⟩
    rcases HD.out with rfl | ⟨rfl, hne⟩
    · go_wp2
      go_ret
      exact ⟨ret_bool (by simp), hb1⟩
    · have e1 : ((len4 : Int) != 17) = true := by simp; omega
      have e2 : ¬ (len4 : Int) = 17 := by omega
      go_wp2
      go_ret
      exact ⟨ret_bool (by simp), hb1⟩
  · have ho : outB a0 a2 = false := by
      by_cases h : outB a0 a2 = true
      · exact absurd (.inl h) hbad
      · simpa using h
    have hl : len4 = 17 := by
      by_cases h : len4 = 17
      · exact h
      · exact absurd (.inr ⟨ho, h⟩) hbad
    clear hbad hmax
    rw [hl] at hlen
    rw [hl]
    clear hl
    have HR := Lib.hid hrow
    have HX := Lib.hid hxs
    have HL := Lib.hid hlen
    have HO := Lib.hid ho
    have HC := Lib.hid fun w => ref_CellCheck a0 a2 w
    rw [ho] at HC
    have HC2 := Lib.hid fun w => ref_CellCheck a1 a3 w
    have H1 := Lib.hid fun w' (hb : Below w.heap.size w w') => Layer_yes a0 a2 a4 cap4 xs w' ho (hrow.below hb (Nat.le_refl _)) hlen hxs
    have l1 : (layN a0.toNat a2.toNat xs).length = 17 := by rw [layN_len]; exact hlen
    have x1 := layN_lt (k := a0.toNat) (n := a2.toNat) hxs
    have HB := Lib.hid (layN_back a0.toNat a2.toNat xs)
    have HLs := Lib.hid l1
    have HX1 := Lib.hid x1
    obtain ⟨ys, hys⟩ : ∃ ys, layN a0.toNat a2.toNat xs = ys := ⟨_, rfl⟩
    rw [hys] at H1 HB HLs HX1
    by_cases ho2 : outB a1 a3 = true
    · rw [ho2] at HC2
      have H2 := Lib.hid fun w => Layer_no a1 a3 a4 cap4 17 w (.inl ho2) (by unfold maxLen; omega)
      clear hlen hrow hxs ho ho2 hys l1 x1
      go_enter Try.func6, Try.ntmps6
      go_wp2_with fail
      refine (H1.out _ (Below.refl _ _)).mono ?_
      rintro e w1 ⟨a1', c1', rfl, hb1, hr1⟩
      go_wp2_with fail
      refine (H2.out _).mono ?_
      rintro e w' ⟨⟨t, ht, rfl⟩, rfl⟩
      have t1 : (t == 0) = false := by simpa using ht
      have t2 : (t != 0) = true := by simpa using ht
      go_wp2_with fail
      refine (HC.out _).mono ?_
      rintro e w' ⟨rfl, rfl⟩
      go_wp2_with fail
      refine (Layer_yes a0 a2 a1' c1' ys _ HO.out hr1 HLs.out HX1.out).mono ?_
      rw [HB.out]
      rintro e w2 ⟨a2', c2', rfl, hb2, hr2⟩
      have HBy := ref_Bytes a2' a4 c2' cap4 xs xs w2 hr2 (HR.out.below (below_two hb1 hb2) (Nat.le_refl _)) (by rw [HL.out]; omega) (by rw [HL.out]; omega) HX.out HX.out
      rw [HL.out, show (xs == xs) = true by simp] at HBy
      go_wp2_with fail
      refine HBy.mono ?_
      rintro e w3 ⟨rfl, hb3⟩
      go_wp2_with fail
      refine (HC2.out _).mono ?_
      rintro e w' ⟨rfl, rfl⟩
      go_wp2
      go_ret
      exact ⟨ret_bool (by simp), below_two (below_two hb1 hb2) hb3⟩
    · have ho2 : outB a1 a3 = false := by simpa using ho2
      rw [ho2] at HC2
      have H2 := Lib.hid fun w' (hb : Below w.heap.size w w') => Layer_yes a1 a3 a4 cap4 xs w' ho2 (hrow.below hb (Nat.le_refl _)) hlen hxs
      have l2 : (layN a1.toNat a3.toNat xs).length = 17 := by rw [layN_len]; exact hlen
      have x2 := layN_lt (k := a1.toNat) (n := a3.toNat) hxs
      have l3 : (layN a1.toNat a3.toNat ys).length = 17 := by rw [layN_len]; exact HLs.out
      have x3 := layN_lt (k := a1.toNat) (n := a3.toNat) HX1.out
      have hcomm := layN_comm a0.toNat a2.toNat a1.toNat a3.toNat xs
      rw [hys] at hcomm
      obtain ⟨zs, hzs⟩ : ∃ ys, layN a1.toNat a3.toNat xs = ys := ⟨_, rfl⟩
      rw [hzs] at H2 l2 x2 hcomm
      have HL2 := Lib.hid l2
      have HX2 := Lib.hid x2
      have HO2 := Lib.hid ho2
      have HCM := Lib.hid hcomm
      have HL3 := Lib.hid l3
      have HX3 := Lib.hid x3
      clear hlen hrow hxs ho ho2 hys l1 x1 l2 x2 l3 x3 hcomm hzs
      go_enter Try.func6, Try.ntmps6
      go_wp2_with fail
      refine (H1.out _ (Below.refl _ _)).mono ?_
      rintro e w1 ⟨a1', c1', rfl, hb1, hr1⟩
      go_wp2_with fail
      refine (H2.out _ hb1).mono ?_
      rintro e w2 ⟨a2', c2', rfl, hb2, hr2⟩
      replace hr1 := hr1.below hb2 (Nat.le_refl _)
      replace hb2 := below_two hb1 hb2
      go_wp2_with fail
      refine (HC.out _).mono ?_
      rintro e w' ⟨rfl, rfl⟩
      go_wp2_with fail
      refine (Layer_yes a0 a2 a1' c1' ys _ HO.out hr1 HLs.out HX1.out).mono ?_
      rw [HB.out]
      rintro e w3 ⟨a3', c3', rfl, hb3, hr3⟩
      replace hr1 := hr1.below hb3 (Nat.le_refl _)
      replace hr2 := hr2.below hb3 (Nat.le_refl _)
      replace hb3 := below_two hb2 hb3
      have HBy := ref_Bytes a3' a4 c3' cap4 xs xs w3 hr3 (HR.out.below hb3 (Nat.le_refl _)) (by rw [HL.out]; omega) (by rw [HL.out]; omega) HX.out HX.out
      rw [HL.out, show (xs == xs) = true by simp] at HBy
      go_wp2_with fail
      refine HBy.mono ?_
      rintro e w4 ⟨rfl, hb4⟩
      replace hr1 := hr1.below hb4 (Nat.le_refl _)
      replace hr2 := hr2.below hb4 (Nat.le_refl _)
      replace hb4 := below_two hb3 hb4
      go_wp2_with fail
      refine (HC2.out _).mono ?_
      rintro e w' ⟨rfl, rfl⟩
      go_wp2_with fail
      refine (Layer_yes a1 a3 a1' c1' ys _ HO2.out hr1 HLs.out HX1.out).mono ?_
      rintro e w5 ⟨a5', c5', rfl, hb5, hr5⟩
      replace hr2 := hr2.below hb5 (Nat.le_refl _)
      replace hb5 := below_two hb4 hb5
      go_wp2_with fail
      refine (Layer_yes a0 a2 a2' c2' zs _ HO.out hr2 HL2.out HX2.out).mono ?_
      rw [← HCM.out]
      rintro e w6 ⟨a6', c6', rfl, hb6, hr6⟩
      replace hr5 := hr5.below hb6 (Nat.le_refl _)
      replace hb6 := below_two hb5 hb6
      have HBz := ref_Bytes a5' a6' c5' c6' _ _ w6 hr5 hr6 (by rw [HL3.out]; omega) (by rw [HL3.out]; omega) HX3.out HX3.out
      rw [HL3.out, show (layN a1.toNat a3.toNat ys == layN a1.toNat a3.toNat ys) = true by simp] at HBz
      go_wp2_with fail
      refine HBz.mono ?_
      rintro e w7 ⟨rfl, hb7⟩
      go_wp2
      go_ret
      exact ⟨ret_bool (by simp), below_two hb6 hb7⟩
end Go.Proofs.Ytpikjahgnnejmaa
