/- The walk of the statement HashClashes. -/
import Derived.Test.YtpikjahgnnejmaaClash
import Derived.Deep.RegionWith
namespace Go.Proofs.Ytpikjahgnnejmaa
open Go.RowKit
set_option linter.unusedVariables false
set_option linter.unusedSimpArgs false
theorem hash_Sum_any (a : Option Addr) (c : Nat) (xs : List Nat) (w : World) (h : RowB w a c xs) (hx : ∀ x ∈ xs, x < 256) :
    Calls Try.prog 14 #[.slice a xs.length c] w fun e w' => (∃ s t : Int, e = .returned (.tuple #[.int .u32 s, .int .i64 t])) ∧ Below w.heap.size w w' := by
  by_cases hl : 4096 < xs.length
  · exact (hash_Sum_no a c xs.length w hl).mono fun e w' ⟨he, hw⟩ => ⟨⟨_, _, he⟩, hw ▸ Below.refl _ _⟩
  · exact (hash_Sum a c xs w h (by omega) hx).mono fun e w' ⟨he, hw⟩ => ⟨⟨_, _, he⟩, hw⟩
set_option maxRecDepth 100000 in
set_option maxHeartbeats 6400000 in
theorem WHashClashes (a0 : Option Addr) (len0 cap0 : Nat) (z0 : List Int) (a1 : Option Addr) (len1 cap1 : Nat) (z1 : List Int) (w : World) (w0 : IsRow .u8 w a0 len0 cap0 z0) (w1 : IsRow .u8 w a1 len1 cap1 z1) :
    Calls Try.prog 5 #[.slice a0 len0 cap0, .slice a1 len1 cap1] w fun e w' => e = .returned (.bool true) ∧ Below w.heap.size w w' := by
  obtain ⟨xs, hlen, hrow, hxs, hmax⟩ := w0.bytes
  obtain ⟨ys, hlen', hrow', hys, hmax'⟩ := w1.bytes
  clear w0 w1
  subst hlen hlen'
  by_cases hbig : 4096 < xs.length ∨ 4096 < ys.length
  · have HC := Lib.hid fun w => hash_Clash_long a0 a1 cap0 cap1 xs.length ys.length w hmax hmax' hbig
    by_cases h1 : 4096 < xs.length
    · have HS := Lib.hid fun w => hash_Sum_no a0 cap0 xs.length w h1
      have HT := Lib.hid fun w' (hb : Below w.heap.size w w') => hash_Sum_any a1 cap1 ys w' (hrow'.below hb (Nat.le_refl _)) hys
      obtain ⟨L, hL⟩ : ∃ L, xs.length = L := ⟨_, rfl⟩
      obtain ⟨M, hM⟩ : ∃ L, ys.length = L := ⟨_, rfl⟩
      rw [hL] at HC HS h1 ⊢
      rw [hM] at HC HT ⊢
      clear hbig hrow hrow' hxs hys hmax hmax' hL hM
      go_enter Try.func5, Try.ntmps5
      go_wp2_with fail
      refine (HS.out _).mono ?_
      rintro e w1 ⟨rfl, rfl⟩
      go_wp2_with fail
      refine (HT.out _ (Below.refl _ _)).mono ?_
      rintro e w1 ⟨⟨s, t, rfl⟩, hb1⟩
      go_wp2_with fail
      refine (HC.out _).mono ?_
      rintro e w2 ⟨⟨u, hu, rfl⟩, hb2⟩
      have u1 : (u == 0) = false := by simpa using hu
      have u2 : (u != 0) = true := by simpa using hu
      have d1 : decide (4096 < (L : Int)) = true := decide_eq_true (by omega)
      go_wp2
      go_ret
      exact ⟨ret_bool (by simp), (below_two hb1 hb2).trans (((Below.refl _ _).alloc (by have := hb1.size; have := hb2.size; omega) _).alloc (by have := hb1.size; have := hb2.size; simp; omega) _)⟩
    · have h2 : 4096 < ys.length := by omega
      have HS := Lib.hid fun w' (hb : Below w.heap.size w w') => hash_Sum_any a0 cap0 xs w' (hrow.below hb (Nat.le_refl _)) hxs
      have HT := Lib.hid fun w => hash_Sum_no a1 cap1 ys.length w h2
      obtain ⟨L, hL⟩ : ∃ L, xs.length = L := ⟨_, rfl⟩
      obtain ⟨M, hM⟩ : ∃ L, ys.length = L := ⟨_, rfl⟩
      rw [hL] at HC HS h1 ⊢
      rw [hM] at HC HT h2 ⊢
      clear hbig hrow hrow' hxs hys hmax hmax' hL hM
      go_enter Try.func5, Try.ntmps5
      go_wp2_with fail
      refine (HS.out _ (Below.refl _ _)).mono ?_
      rintro e w1 ⟨⟨s, t, rfl⟩, hb1⟩
      go_wp2_with fail
      refine (HT.out _).mono ?_
      rintro e w1 ⟨rfl, rfl⟩
      go_wp2_with fail
      refine (HC.out _).mono ?_
      rintro e w2 ⟨⟨u, hu, rfl⟩, hb2⟩
      have u1 : (u == 0) = false := by simpa using hu
      have u2 : (u != 0) = true := by simpa using hu
      have d1 : decide (4096 < (L : Int)) = false := decide_eq_false (by omega)
      have d2 : decide (4096 < (M : Int)) = true := decide_eq_true (by omega)
      go_wp2
      all_goals
        go_ret
        exact ⟨ret_bool (by simp), (below_two hb1 hb2).trans (((Below.refl _ _).alloc (by have := hb1.size; have := hb2.size; omega) _).alloc (by have := hb1.size; have := hb2.size; simp; omega) _)⟩
  · have l1 : xs.length ≤ 4096 := by omega
    have l2 : ys.length ≤ 4096 := by omega
    have HS := Lib.hid fun w' (hb : Below w.heap.size w w') => hash_Sum a0 cap0 xs w' (hrow.below hb (Nat.le_refl _)) l1 hxs
    have HT := Lib.hid fun w' (hb : Below w.heap.size w w') => hash_Sum a1 cap1 ys w' (hrow'.below hb (Nat.le_refl _)) l2 hys
    have HB := Lib.hid fun w' (hb : Below w.heap.size w w') => ref_Bytes a0 a1 cap0 cap1 xs ys w' (hrow.below hb (Nat.le_refl _)) (hrow'.below hb (Nat.le_refl _)) (by omega) (by omega) hxs hys
    by_cases heq : xs = ys
    · subst heq
      have HC := Lib.hid fun w' (hb : Below w.heap.size w w') => hash_Clash_same a0 a1 cap0 cap1 xs w' (hrow.below hb (Nat.le_refl _)) (hrow'.below hb (Nat.le_refl _)) l1 hxs
      rw [show (xs == xs) = true by simp] at HB
      obtain ⟨S, hS⟩ : ∃ S, sumN xs = S := ⟨_, rfl⟩
      rw [hS] at HS HT
      obtain ⟨L, hL⟩ : ∃ L, xs.length = L := ⟨_, rfl⟩
      rw [hL] at HC HS HT HB l1 ⊢
      have d1 : decide (4096 < (L : Int)) = false := decide_eq_false (by omega)
      clear hbig hrow hrow' hxs hys hmax hmax' hL l2 hS
      go_enter Try.func5, Try.ntmps5
      go_wp2_with fail
      refine (HS.out _ (Below.refl _ _)).mono ?_
      rintro e w1 ⟨rfl, hb1⟩
      go_wp2_with fail
      refine (HT.out _ hb1).mono ?_
      rintro e w2 ⟨rfl, hb2⟩
      replace hb2 := below_two hb1 hb2
      go_wp2_with fail
      refine (HC.out _ hb2).mono ?_
      rintro e w3 ⟨rfl, hb3⟩
      replace hb3 := (below_two hb2 hb3).trans (((Below.refl _ _).alloc (by have := hb2.size; have := hb3.size; omega) (.cells #[.int .u32 0, .int .u8 0] 33)).alloc (by have := hb2.size; have := hb3.size; simp; omega) (.cells #[.int .u32 0, .int .u8 0] 33))
      go_wp2_with fail
      refine (HB.out _ hb3).mono ?_
      rintro e w4 ⟨rfl, hb4⟩
      replace hb4 := below_two hb3 hb4
      go_wp2_with fail
      refine (HB.out _ hb4).mono ?_
      rintro e w5 ⟨rfl, hb5⟩
      go_wp2
      go_ret
      exact ⟨ret_bool (by simp), below_two hb4 hb5⟩
    · rw [show (xs == ys) = false by rw [beq_eq_false_iff_ne]; exact heq] at HB
      by_cases hs : sumN xs = sumN ys
      · have HC := Lib.hid fun w' (hb : Below w.heap.size w w') => hash_Clash_yes a0 a1 cap0 cap1 xs ys w' (hrow.below hb (Nat.le_refl _)) (hrow'.below hb (Nat.le_refl _)) l1 l2 hxs hys heq hs
        rw [← hs] at HT
        obtain ⟨S, hS⟩ : ∃ S, sumN xs = S := ⟨_, rfl⟩
        rw [hS] at HS HT
        obtain ⟨L, hL⟩ : ∃ L, xs.length = L := ⟨_, rfl⟩
        obtain ⟨M, hM⟩ : ∃ L, ys.length = L := ⟨_, rfl⟩
        rw [hL] at HC HS HB l1 ⊢
        rw [hM] at HC HT HB l2 ⊢
        have d1 : decide (4096 < (L : Int)) = false := decide_eq_false (by omega)
        have d2 : decide (4096 < (M : Int)) = false := decide_eq_false (by omega)
        clear hbig hrow hrow' hxs hys hmax hmax' hL hM hs hS heq
        go_enter Try.func5, Try.ntmps5
        go_wp2_with fail
        refine (HS.out _ (Below.refl _ _)).mono ?_
        rintro e w1 ⟨rfl, hb1⟩
        go_wp2_with fail
        refine (HT.out _ hb1).mono ?_
        rintro e w2 ⟨rfl, hb2⟩
        replace hb2 := below_two hb1 hb2
        go_wp2_with fail
        refine (HC.out _ hb2).mono ?_
        rintro e w3 ⟨g, x, h, y, rfl, g1, h1, x1, y1, hne, hst, hb3⟩
        have z3 := hb3.size
        have z2 := hb2.size
        replace hb3 := (below_two hb2 hb3).trans (((Below.refl _ _).alloc (by have := hb2.size; have := hb3.size; omega) (.cells #[.int .u32 g, .int .u8 x] 33)).alloc (by have := hb2.size; have := hb3.size; simp; omega) (.cells #[.int .u32 h, .int .u8 y] 33))
        go_wp2_with fail
        refine (HB.out _ hb3).mono ?_
        rintro e w4 ⟨rfl, hb4⟩
        have HNE := Lib.hid hne
        have HST := Lib.hid hst
        have k0 := kept hb4 (b := w3.heap.size) (o := 0) (v := .int .u32 g) (by simp [go_sem]) (by simp [go_sem])
        have k1 := kept hb4 (b := w3.heap.size) (o := 1) (v := .int .u8 x) (by simp [go_sem]) (by simp [go_sem])
        have k2 := kept hb4 (b := w3.heap.size + 1) (o := 0) (v := .int .u32 h) (by simp [go_sem]) (by simp [go_sem])
        have k3 := kept hb4 (b := w3.heap.size + 1) (o := 1) (v := .int .u8 y) (by simp [go_sem]) (by simp [go_sem])
        replace hb4 := below_two hb3 hb4
        clear hb3
        by_cases e : g = h
        · subst e
          have e1 : ((x : Int) == (y : Int)) = false := by rw [beq_eq_false_iff_ne]; intro e2; exact hne ⟨rfl, by omega⟩
          have e2 : ¬ (x : Int) = (y : Int) := fun e2 => hne ⟨rfl, by omega⟩
          clear hne
          have st1 := hash_Step g x
          have st2 := hash_Step g y
          rw [← hst] at st2
          have ST1 := Lib.hid st1
          have ST2 := Lib.hid st2
          clear st1 st2 hst
          go_wp2_with fail
          go_quiet ((first | (go_at_call_of 13 (x : Int); exact quiet_same (ST1.out _ g1 x1)) | (go_at_call 13; exact quiet_same (ST2.out _ g1 y1))))
          go_wp2
          go_ret
          exact ⟨ret_bool (by simp), below_drewN hb4 _⟩
        · have e1 : ((g : Int) == (h : Int)) = false := by rw [beq_eq_false_iff_ne]; omega
          have e2 : ¬ (g : Int) = (h : Int) := by omega
          clear hne
          have st1 := hash_Step g x
          have st2 := hash_Step h y
          rw [← hst] at st2
          have ST1 := Lib.hid st1
          have ST2 := Lib.hid st2
          clear st1 st2 hst
          go_wp2_with fail
          go_quiet ((first | (go_at_call_of 13 (g : Int); exact quiet_same (ST1.out _ g1 x1)) | (go_at_call 13; exact quiet_same (ST2.out _ h1 y1))))
          go_wp2
          go_ret
          exact ⟨ret_bool (by simp), below_drewN hb4 _⟩
      · have HC := Lib.hid fun w' (hb : Below w.heap.size w w') => hash_Clash_none a0 a1 cap0 cap1 xs ys w' (hrow.below hb (Nat.le_refl _)) (hrow'.below hb (Nat.le_refl _)) l1 l2 hxs hys heq hs
        obtain ⟨S, hS⟩ : ∃ S, sumN xs = S := ⟨_, rfl⟩
        obtain ⟨T, hT⟩ : ∃ S, sumN ys = S := ⟨_, rfl⟩
        rw [hS] at HS hs
        rw [hT] at HT hs
        obtain ⟨L, hL⟩ : ∃ L, xs.length = L := ⟨_, rfl⟩
        obtain ⟨M, hM⟩ : ∃ L, ys.length = L := ⟨_, rfl⟩
        rw [hL] at HC HS HB l1 ⊢
        rw [hM] at HC HT HB l2 ⊢
        have d1 : decide (4096 < (L : Int)) = false := decide_eq_false (by omega)
        have d2 : decide (4096 < (M : Int)) = false := decide_eq_false (by omega)
        have e1 : ((S : Int) == (T : Int)) = false := by rw [beq_eq_false_iff_ne]; omega
        clear hbig hrow hrow' hxs hys hmax hmax' hL hM hs hS hT heq
        go_enter Try.func5, Try.ntmps5
        go_wp2_with fail
        refine (HS.out _ (Below.refl _ _)).mono ?_
        rintro e w1 ⟨rfl, hb1⟩
        go_wp2_with fail
        refine (HT.out _ hb1).mono ?_
        rintro e w2 ⟨rfl, hb2⟩
        replace hb2 := below_two hb1 hb2
        go_wp2_with fail
        refine (HC.out _ hb2).mono ?_
        rintro e w3 ⟨rfl, hb3⟩
        replace hb3 := (below_two hb2 hb3).trans (((Below.refl _ _).alloc (by have := hb2.size; have := hb3.size; omega) (.cells #[.int .u32 0, .int .u8 0] 33)).alloc (by have := hb2.size; have := hb3.size; simp; omega) (.cells #[.int .u32 0, .int .u8 0] 33))
        go_wp2_with fail
        refine (HB.out _ hb3).mono ?_
        rintro e w4 ⟨rfl, hb4⟩
        go_wp2
        go_ret
        exact ⟨ret_bool (by simp), below_two hb3 hb4⟩
end Go.Proofs.Ytpikjahgnnejmaa
