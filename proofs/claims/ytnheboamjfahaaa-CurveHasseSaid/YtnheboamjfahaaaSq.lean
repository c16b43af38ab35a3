/- Contracts of package squares: Of and Jacobi compute Jacobi's symbol. -/
import Derived.Test.YtnheboamjfahaaaEu2
import Derived.Test.YtnheboamjfahaaaNum3
namespace Go.Proofs.Ytnheboamjfahaaa
open Go.RowKit
set_option linter.unusedVariables false
set_option linter.unusedSimpArgs false

/-- what stands between two rounds -/
def JRel (a0 n0 S A N : Int) : Prop := (S = 1 ∨ S = -1) ∧ 0 ≤ A ∧ A ≤ 1048576 ∧ 0 < N ∧ N ≤ 1048576 ∧ N % 2 = 1 ∧ S * M.jac A N = M.jac a0 n0
theorem JRel.init {a0 n0 : Int} (h1 : 0 < n0) (h2 : n0 ≤ 1048576) (h3 : n0 % 2 = 1) : JRel a0 n0 1 (a0 % n0) n0 := by
  have e1 := Int.emod_nonneg a0 (show n0 ≠ 0 by omega)
  have e2 := Int.emod_lt_of_pos a0 h1
  exact ⟨.inl rfl, e1, by omega, h1, h2, h3, by rw [M.jac_emod, Int.one_mul]⟩
theorem JRel.halve {a0 n0 S A N : Int} (h : JRel a0 n0 S A N) (he : A % 2 = 0) : JRel a0 n0 (if N % 8 = 3 ∨ N % 8 = 5 then -S else S) (A / 2) N := by
  obtain ⟨h1, h2, h3, h4, h5, h6, h7⟩ := h
  have e : A = 2 * (A / 2) := by omega
  rw [e, M.jac_mul h4 h6, M.jac_two h4 h6] at h7
  refine ⟨by split <;> omega, by omega, by omega, h4, h5, h6, ?_⟩
  rw [← h7]
  split
  · rw [if_neg (by omega)]; grind
  · rw [if_pos (by omega)]; grind
theorem JRel.flip {a0 n0 S A N : Int} (h : JRel a0 n0 S A N) (ho : A % 2 = 1) (hA : A ≠ 0) : JRel a0 n0 (if A % 4 = 3 ∧ N % 4 = 3 then -S else S) (N % A) A := by
  obtain ⟨h1, h2, h3, h4, h5, h6, h7⟩ := h
  have e1 := Int.emod_nonneg N hA
  have e2 := Int.emod_lt_of_pos N (show 0 < A by omega)
  refine ⟨by split <;> omega, e1, by omega, by omega, h3, ho, ?_⟩
  rw [M.jac_emod, ← h7]
  by_cases hg : Int.gcd A N = 1
  · have r := M.jac_recip h4 h6 (show 0 < A by omega) ho hg
    have s := M.jac_sq (a := N) (n := A) (by rw [Int.gcd_comm]; exact hg)
    have e : M.jac A N = M.par ((A - 1) / 2 * ((N - 1) / 2)) * M.jac N A := by rw [← r]; grind
    rw [e]
    obtain ⟨u, hu⟩ : ∃ u, A = 2 * u + 1 := ⟨A / 2, by omega⟩
    obtain ⟨v, hv⟩ : ∃ v, N = 2 * v + 1 := ⟨N / 2, by omega⟩
    have hu2 : (A - 1) / 2 = u := by omega
    have hv2 : (N - 1) / 2 = v := by omega
    rw [hu2, hv2]
    have hp : M.par (u * v) = if u % 2 = 1 ∧ v % 2 = 1 then -1 else 1 := by
      unfold M.par
      rw [Int.mul_emod]
      rcases Int.emod_two_eq u with a | a <;> rcases Int.emod_two_eq v with b | b <;> rw [a, b] <;> simp
    rw [hp]
    by_cases hc : A % 4 = 3 ∧ N % 4 = 3
    · rw [if_pos hc, if_pos (by omega)]; grind
    · rw [if_neg hc, if_neg (by omega)]; grind
  · have z1 := M.jac_zero_iff.2 hg
    have z2 : M.jac N A = 0 := M.jac_zero_iff.2 (by rw [Int.gcd_comm]; exact hg)
    rw [z1, z2]; simp
theorem JRel.fin {a0 n0 S N : Int} (h : JRel a0 n0 S 0 N) : M.jac a0 n0 = if N = 1 then S else 0 := by
  obtain ⟨h1, h2, h3, h4, h5, h6, h7⟩ := h
  rw [← h7]
  have : M.jac 0 N = if N = 1 then 1 else 0 := by
    split
    · rename_i e
      subst e
      have := M.jac_one 1
      rw [M.jac_congr (b := 0) ⟨1, by omega⟩] at this
      exact this
    · apply M.jac_zero_iff.2; simp; omega
  rw [this]; split <;> simp
set_option maxHeartbeats 1600000 in
theorem squares_Of (a0 n0 : Int) (w : World) (h1 : 0 < n0) (h2 : n0 ≤ 1048576) (h3 : n0 % 2 = 1) :
    Calls Try.prog 13 #[.int .i64 a0, .int .i64 n0] w fun e w' => e = .returned (.int .i64 (M.jac a0 n0)) ∧ w = w' := by
  have H3 := Lib.hid h3
  clear h3
  go_enter Try.func13, Try.ntmps13
  go_wp2_with fail
  refine (euclid_Mod _ _ _ (by omega) (by omega)).mono ?_
  rintro e w' ⟨rfl, rfl⟩
  go_wp2
  go_loop [0, 1, 5] (fun a n s => ∃ A N S : Int, a = .int .i64 A ∧ n = .int .i64 N ∧ s = .int .i64 S ∧ JRel a0 n0 S A N) (fun a _ _ => (intOf a).toNat)
  case atStart => exact ⟨_, _, _, rfl, rfl, rfl, JRel.init h1 h2 H3.out⟩
  case round =>
    obtain ⟨A, N, S, rfl, rfl, rfl, hr⟩ := hrel
    by_cases hA : A = 0
    · subst hA
      have HF := Lib.hid hr.fin
      by_cases hN : N = 1
      · subst hN
        go_wp2
        go_ret
        exact ⟨ret_int (by rw [HF.out]; simp), rfl⟩
      · go_wp2
        go_ret
        exact ⟨ret_int (by rw [HF.out, if_neg hN]), rfl⟩
    · have ⟨_, a1, a2, a3, a4, _, _⟩ := hr
      go_wp2
      go_loop [0, 5] (fun a s => ∃ B T : Int, a = .int .i64 B ∧ s = .int .i64 T ∧ JRel a0 n0 T B N ∧ B ≠ 0 ∧ B ≤ A) (fun a _ => (intOf a).toNat)
      case atStart => exact ⟨A, S, rfl, rfl, hr, hA, Int.le_refl _⟩
      case round =>
        obtain ⟨B, T, rfl, rfl, hr2, hB, hle⟩ := hrel
        have ⟨t1, b1, b2, b3, b4, b5, _⟩ := hr2
        have t2 : -1 ≤ T := by omega
        have t3 : T ≤ 1 := by omega
        clear t1
        have HB5 := Lib.hid b5
        clear b5
        by_cases he : B % 2 = 0
        · have hh := hr2.halve he
          have hev : (B % 2 == 0) = true := by simpa using he
          have HE := Lib.hid he
          clear he
          have hb2 : B / 2 ≠ 0 := by have := HE.out; omega
          by_cases hn3 : N % 8 = 3
          · rw [if_pos (.inl hn3)] at hh
            have c1 : (N % 8 == 3) = true := by simpa using hn3
            clear hn3
            go_wp2
            go_round
            case rel => exact ⟨_, _, rfl, rfl, hh, hb2, by omega⟩
            case measure => simp [intOf]; omega
          · have c1 : (N % 8 == 3) = false := by simpa using hn3
            by_cases hn5 : N % 8 = 5
            · rw [if_pos (.inr hn5)] at hh
              have c2 : (N % 8 == 5) = true := by simpa using hn5
              clear hn3 hn5
              go_wp2
              go_round
              case rel => exact ⟨_, _, rfl, rfl, hh, hb2, by omega⟩
              case measure => simp [intOf]; omega
            · rw [if_neg (by omega)] at hh
              have c2 : (N % 8 == 5) = false := by simpa using hn5
              clear hn3 hn5
              go_wp2
              go_round
              case rel => exact ⟨_, _, rfl, rfl, hh, hb2, by omega⟩
              case measure => simp [intOf]; omega
        · have hh := hr2.flip (by omega) hB
          have hev : (B % 2 == 0) = false := by simpa using he
          have m1 := Int.emod_nonneg N hB
          have m2 := Int.emod_lt_of_pos N (show 0 < B by omega)
          clear he
          by_cases hb3 : B % 4 = 3
          · have c1 : (B % 4 == 3) = true := by simpa using hb3
            by_cases hn3 : N % 4 = 3
            · rw [if_pos ⟨hb3, hn3⟩] at hh
              have c2 : (N % 4 == 3) = true := by simpa using hn3
              clear hn3 hb3
              go_wp2
              go_round
              case rel => exact ⟨_, _, _, rfl, rfl, rfl, hh⟩
              case measure => simp [intOf]; omega
            · rw [if_neg (by omega)] at hh
              have c2 : (N % 4 == 3) = false := by simpa using hn3
              clear hn3 hb3
              go_wp2
              go_round
              case rel => exact ⟨_, _, _, rfl, rfl, rfl, hh⟩
              case measure => simp [intOf]; omega
          · rw [if_neg (by omega)] at hh
            have c1 : (B % 4 == 3) = false := by simpa using hb3
            clear hb3
            go_wp2
            go_round
            case rel => exact ⟨_, _, _, rfl, rfl, rfl, hh⟩
            case measure => simp [intOf]; omega
end Go.Proofs.Ytnheboamjfahaaa
