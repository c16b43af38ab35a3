/- The walk of FeistelBack. -/
import Derived.Test.YtabhmhojlhagcaaFeO
namespace Go.Proofs.Ytabhmhojlhagcaa
open Go.RowKit
set_option linter.unusedVariables false
set_option linter.unusedSimpArgs false
theorem fsE_any {rows : List (List Int)} {x y : Int} (hx : 0 ≤ x ∧ x < 256) (h : fsE rows y = 0) : fsE rows x = 0 := fsE_zero.2 ⟨(fsE_zero.1 h).1, hx⟩
set_option maxHeartbeats 3200000 in
theorem fb_go (a : Option Addr) (len cap : Nat) (R : Nat → Option Addr × Nat) (rows : List (List Int)) (X : Nat) (y : Int) (w : World) (hL : rows.length = len) (hr : RowR w a cap R rows) (hrl : ∀ r ∈ rows, r.length ≤ 9223372036854775807) (hf : fsE rows X = 0) :
    Calls Try.prog 5 #[.slice a len cap, .int .i64 X, .int .i64 y] w fun e w' => e = .returned (.bool true) ∧ Below w.heap.size w w' := by
  obtain ⟨hn, x0, x1⟩ := fsE_zero.1 hf
  have l64 := hn.len
  rw [hL] at l64
  have HR := Lib.hid hr
  have X2 : X < 256 := by omega
  have sl := sealN_lt hn X2
  have ol := openN_lt hn X2
  have HS := Lib.hid fun w h => feistel_Seal a cap R rows X w len h hL hf
  have HO := Lib.hid fun w h => feistel_Open a cap R rows X w len h hL hf
  have HC := Lib.hid fun w h => ref_RoundsCheck a cap R rows X w len h hL (by omega) hrl
  have HS2 := Lib.hid fun w h => feistel_Seal a cap R rows (openN rows X) w len h hL (fsE_any (by omega) hf)
  have HO2 := Lib.hid fun w h => feistel_Open a cap R rows (sealN rows X) w len h hL (fsE_any (by omega) hf)
  rw [sealN_openN hn X2] at HS2
  rw [openN_sealN hn X2] at HO2
  rw [hf] at HC
  have HY : Hid ((fsE rows y ≠ 0 ∧ ∀ w, RowR w a cap R rows → Calls Try.prog 16 #[.slice a len cap, .int .i64 y] w fun e w' => e = .returned (.tuple #[.int .i64 0, .int .i64 (fsE rows y)]) ∧ Below w.heap.size w w') ∨
      ∃ Y : Nat, y = Y ∧ (sealN rows Y = sealN rows X ↔ Y = X) ∧ ∀ w, RowR w a cap R rows → Calls Try.prog 16 #[.slice a len cap, .int .i64 Y] w fun e w' => e = .returned (.tuple #[.int .i64 (sealN rows Y), .int .i64 0]) ∧ Below w.heap.size w w') := Lib.hid (by
    by_cases hy : fsE rows y = 0
    · right
      obtain ⟨_, y0, y1⟩ := fsE_zero.1 hy
      obtain ⟨Y, rfl⟩ := Int.eq_ofNat_of_zero_le y0
      refine ⟨Y, rfl, ⟨fun h => ?_, fun h => by rw [h]⟩, fun w h => feistel_Seal a cap R rows Y w len h hL hy⟩
      rw [← openN_sealN hn (x := Y) (by omega), h, openN_sealN hn X2]
    · exact .inl ⟨hy, fun w h => feistel_Seal_no a cap R rows y w len h hL (by omega) hrl hy⟩)
  obtain ⟨s, hs⟩ : ∃ s, sealN rows X = s := ⟨_, rfl⟩
  obtain ⟨o, ho⟩ : ∃ s, openN rows X = s := ⟨_, rfl⟩
  rw [hs] at HS HO2 HY
  rw [ho] at HO HS2
  clear hs ho hf hn hr hL hrl sl ol x0 x1
  go_enter Try.func5, Try.ntmps5
  go_wp2_with fail
  refine (HS.out _ HR.out).mono ?_
  rintro e w1 ⟨rfl, hb1⟩
  have HR1 := Lib.hid (HR.out.below hb1 (Nat.le_refl _))
  go_wp2_with fail
  refine (HO.out _ HR1.out).mono ?_
  rintro e w2 ⟨rfl, hb2⟩
  have HR2 := Lib.hid (HR1.out.below hb2 (Nat.le_refl _))
  go_wp2_with fail
  refine (HC.out _ HR2.out).mono ?_
  rintro e w' ⟨rfl, rfl⟩
  go_wp2_with fail
  refine (HO2.out _ HR2.out).mono ?_
  rintro e w3 ⟨rfl, hb3⟩
  have HR3 := Lib.hid (HR2.out.below hb3 (Nat.le_refl _))
  go_wp2_with fail
  refine (HS2.out _ HR3.out).mono ?_
  rintro e w4 ⟨rfl, hb4⟩
  have HR4 := Lib.hid (HR3.out.below hb4 (Nat.le_refl _))
  have hbz := below_two (below_two (below_two hb1 hb2) hb3) hb4
  clear hb1 hb2 hb3 hb4
  rcases HY.out with ⟨hy, HZ⟩ | ⟨Y, rfl, hiff, HZ⟩
  · obtain ⟨t, ht⟩ : ∃ t, fsE rows y = t := ⟨_, rfl⟩
    rw [ht] at hy HZ
    have e1 : (t == 0) = false := by simpa using hy
    have e2 : (t != 0) = true := by simpa using hy
    have HZ' := Lib.hid HZ
    clear HZ ht hy HY
    go_wp2_with fail
    refine (HZ'.out _ HR4.out).mono ?_
    rintro e w5 ⟨rfl, hb5⟩
    go_wp2
    go_ret
    exact ⟨rfl, below_two hbz hb5⟩
  · have HZ' := Lib.hid HZ
    clear HZ HY
    by_cases e : Y = X
    · subst e
      have e3 := hiff.2 rfl
      rw [e3] at HZ'
      clear e3 hiff
      go_wp2_with fail
      refine (HZ'.out _ HR4.out).mono ?_
      rintro e w5 ⟨rfl, hb5⟩
      go_wp2
      go_ret
      exact ⟨rfl, below_two hbz hb5⟩
    · obtain ⟨t, ht⟩ : ∃ t, sealN rows Y = t := ⟨_, rfl⟩
      rw [ht] at hiff HZ'
      have hne : t ≠ s := fun h => e (hiff.1 h)
      have e1 : (t == s) = false := by simpa using hne
      have e2 : ((t : Int) == s) = false := by simp; omega
      have e3 : (X == Y) = false := by simp; omega
      have e4 : ((X : Int) == Y) = false := by simp; omega
      clear hiff ht hne e
      go_wp2_with fail
      refine (HZ'.out _ HR4.out).mono ?_
      rintro e w5 ⟨rfl, hb5⟩
      go_wp2
      go_ret
      exact ⟨rfl, below_two hbz hb5⟩
set_option maxHeartbeats 3200000 in
theorem fb_no (a : Option Addr) (len cap : Nat) (R : Nat → Option Addr × Nat) (rows : List (List Int)) (x y : Int) (w : World) (hL : rows.length = len) (hl : len ≤ 9223372036854775807) (hr : RowR w a cap R rows) (hrl : ∀ r ∈ rows, r.length ≤ 9223372036854775807) (hf : ¬ fsE rows x = 0) :
    Calls Try.prog 5 #[.slice a len cap, .int .i64 x, .int .i64 y] w fun e w' => e = .returned (.bool true) ∧ Below w.heap.size w w' := by
  have HR := Lib.hid hr
  have HS := Lib.hid fun w h => feistel_Seal_no a cap R rows x w len h hL hl hrl hf
  have HO := Lib.hid fun w h => feistel_Open_no a cap R rows x w len h hL hl hrl hf
  have HC := Lib.hid fun w h => ref_RoundsCheck a cap R rows x w len h hL hl hrl
  obtain ⟨t, ht⟩ : ∃ t, fsE rows x = t := ⟨_, rfl⟩
  rw [ht] at hf HS HO HC
  have e1 : (t == 0) = false := by simpa using hf
  have e2 : (t != 0) = true := by simpa using hf
  clear ht hf hL hr hrl
  go_enter Try.func5, Try.ntmps5
  go_wp2_with fail
  refine (HS.out _ HR.out).mono ?_
  rintro e w1 ⟨rfl, hb1⟩
  have HR1 := Lib.hid (HR.out.below hb1 (Nat.le_refl _))
  go_wp2_with fail
  refine (HO.out _ HR1.out).mono ?_
  rintro e w2 ⟨rfl, hb2⟩
  have HR2 := Lib.hid (HR1.out.below hb2 (Nat.le_refl _))
  go_wp2_with fail
  refine (HC.out _ HR2.out).mono ?_
  rintro e w' ⟨rfl, rfl⟩
  go_wp2
  go_ret
  exact ⟨rfl, below_two hb1 hb2⟩
theorem WFeistelBack (a0 : Option Addr) (len0 cap0 : Nat) (z0 : List (List Int)) (a1 : Int) (a2 : Int) (w : World) (w0 : IsMat w a0 len0 cap0 z0) (w1 : (Lit.int .i64 a1).wf = true) (w2 : (Lit.int .i64 a2).wf = true) :
    Calls Try.prog 5 #[.slice a0 len0 cap0, .int .i64 a1, .int .i64 a2] w fun e w' => e = .returned (.bool true) ∧ Below w.heap.size w w' := by
  obtain ⟨hL, hl, ⟨R, hr⟩, hrow⟩ := w0
  by_cases hf : fsE z0 a1 = 0
  · obtain ⟨_, x0, x1⟩ := fsE_zero.1 hf
    obtain ⟨X, rfl⟩ := Int.eq_ofNat_of_zero_le x0
    exact fb_go a0 len0 cap0 R z0 X a2 w hL hr (fun r h => (hrow r h).1) hf
  · exact fb_no a0 len0 cap0 R z0 a1 a2 w hL hl hr (fun r h => (hrow r h).1) hf
end Go.Proofs.Ytabhmhojlhagcaa
