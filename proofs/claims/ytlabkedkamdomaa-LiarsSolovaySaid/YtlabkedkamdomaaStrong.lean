/- The contract of liars.strong: the strong test. -/
import Derived.Test.YtlabkedkamdomaaPow
import Derived.Test.YtlabkedkamdomaaNum5
namespace Go.Proofs.Ytlabkedkamdomaa
open Go.RowKit
set_option linter.unusedVariables false
set_option linter.unusedSimpArgs false
noncomputable def strB (a n : Int) : Bool := @decide (M.Strong a n.toNat) (Classical.propDecidable _)
theorem strB_yes {a n : Int} (h : M.Strong a n.toNat) : strB a n = true := @decide_eq_true _ (Classical.propDecidable _) h
theorem strB_no {a n : Int} (h : ¬ M.Strong a n.toNat) : strB a n = false := @decide_eq_false _ (Classical.propDecidable _) h
theorem strB_true {a n : Int} (h : strB a n = true) : M.Strong a n.toNat := @of_decide_eq_true _ (Classical.propDecidable _) h
theorem strB_false {a n : Int} (h : strB a n = false) : ¬ M.Strong a n.toNat := @of_decide_eq_false _ (Classical.propDecidable _) h
theorem pow_lim {D S m : Nat} (h : D * 2 ^ S = m) (hD : 0 < D) : S < m + 1 := by
  have : S < 2 ^ S := Nat.lt_two_pow_self
  have := Nat.le_mul_of_pos_left (2 ^ S) hD
  omega
theorem sq_pow (a n : Int) (d i : Nat) : (a ^ (d * 2 ^ i) % n) * (a ^ (d * 2 ^ i) % n) % n = a ^ (d * 2 ^ (i + 1)) % n := by
  rw [← Int.mul_emod, ← Int.pow_add]; congr 2; rw [Nat.pow_succ, ← Nat.mul_assoc]; omega
set_option maxHeartbeats 1600000 in
theorem liars_strong (a n : Int) (w : World) (h1 : 3 ≤ n) (h2 : n ≤ 1048576) :
    Calls Try.prog 45 #[.int .i64 a, .int .i64 n] w fun e w' => e = .returned (.bool (strB a n)) ∧ w = w' := by
  go_enter Try.func45, Try.ntmps45
  go_wp2
  go_loop [5, 6] (fun d s => ∃ D S : Nat, d = .int .i64 D ∧ s = .int .i64 S ∧ 0 < D ∧ D * 2 ^ S = (n - 1).toNat) (fun d _ => (intOf d).toNat)
  case atStart => exact ⟨(n - 1).toNat, 0, by rw [Int.toNat_of_nonneg (by omega)], rfl, by omega, by simp⟩
  case round =>
    obtain ⟨D, S, rfl, rfl, hD, hDS⟩ := hrel
    have hS := pow_lim hDS hD
    have hDl : D ≤ 1048576 := by have := Nat.le_mul_of_pos_right D (Nat.pow_pos (n := S) (show 0 < 2 by omega)); omega
    have HDS := Lib.hid hDS
    clear hDS
    by_cases he : D % 2 = 0
    · have c1 : ((D : Int) % 2 == 0) = true := by simp; omega
      have HE := Lib.hid he
      clear he
      go_wp2
      go_round
      case rel => exact ⟨D / 2, S + 1, by go_num, by go_num, by have := HE.out; omega, by
        rw [← HDS.out, Nat.pow_succ]
        have e : D = D / 2 * 2 := by have := HE.out; omega
        conv => rhs; rw [e]
        rw [Nat.mul_assoc, Nat.mul_comm 2]⟩
      case measure => simp [intOf]; omega
    · have c1 : ((D : Int) % 2 == 0) = false := by simp; omega
      have hu := M.od_unique (m := (n - 1).toNat) (by omega) (show D % 2 = 1 by omega) HDS.out
      have hn1 : (n - 1).toNat = n.toNat - 1 := by omega
      rw [hn1] at hu
      have HU := Lib.hid hu
      clear he hu hn1
      have x1 := Int.emod_nonneg (a ^ D) (show n ≠ 0 by omega)
      have x2 := Int.emod_lt_of_pos (a ^ D) (show 0 < n by omega)
      have hn : ((n.toNat : Nat) : Int) = n := Int.toNat_of_nonneg (by omega)
      have HN := Lib.hid hn
      clear hn
      obtain ⟨x, hx⟩ : ∃ x, x = a ^ D % n := ⟨_, rfl⟩
      rw [← hx] at x1 x2
      have HX := Lib.hid hx
      clear hx
      go_wp2_with fail
      refine (power_Of _ _ _ _ (by omega) (by omega) (by omega) h2).mono ?_
      rintro e w' ⟨rfl, rfl⟩
      rw [Int.toNat_natCast, ← HX.out]
      by_cases hx1 : x = 1
      · have HR : Hid (strB a n = true) := strB_yes (.inl (by rw [HN.out, ← HU.out.1, ← HX.out]; exact hx1))
        have c2 : (x == 1) = true := by simpa using hx1
        clear hx1
        go_wp2
        go_ret
        exact ⟨ret_bool HR.out.symm, rfl⟩
      · have HX1 := Lib.hid hx1
        have c2 : (x == 1) = false := by simpa using hx1
        clear hx1
        go_wp2
        go_loop [7, 24] (fun x i => ∃ (X : Int) (I : Nat), x = .int .i64 X ∧ i = .int .i64 I ∧ I ≤ S ∧ X = a ^ (D * 2 ^ I) % n ∧ ∀ j, j < I → a ^ (D * 2 ^ j) % n ≠ n - 1) (fun _ i => S - (intOf i).toNat)
        case atStart => exact ⟨x, 0, rfl, rfl, by omega, by rw [HX.out]; simp, fun j hj => by omega⟩
        case round =>
          obtain ⟨X, I, rfl, rfl, hI, hX, hall⟩ := hrel
          have y1 := Int.emod_nonneg (a ^ (D * 2 ^ I)) (show n ≠ 0 by omega)
          have y2 := Int.emod_lt_of_pos (a ^ (D * 2 ^ I)) (show 0 < n by omega)
          rw [← hX] at y1 y2
          have HX2 := Lib.hid hX
          have HA := Lib.hid hall
          clear hX hall
          have p := mul_lim y1 (by omega) y1 (by omega)
          by_cases hlt : I < S
          · by_cases hxn : X = n - 1
            · have HR : Hid (strB a n = true) := strB_yes (.inr ⟨I, by rw [← HU.out.2]; exact hlt, by rw [HN.out, ← HU.out.1, ← HX2.out]; exact hxn⟩)
              have c3 : (X == n - 1) = true := by simpa using hxn
              clear hxn
              go_wp2
              go_ret
              exact ⟨ret_bool HR.out.symm, rfl⟩
            · have HNE := Lib.hid hxn
              have c3 : (X == n - 1) = false := by simpa using hxn
              clear hxn
              go_wp2
              go_round
              case rel => exact ⟨X * X % n, I + 1, rfl, by go_num, by omega, by rw [HX2.out, sq_pow], fun j hj => by
                by_cases e : j = I
                · subst e; rw [← HX2.out]; exact HNE.out
                · exact HA.out j (by omega)⟩
              case measure => simp [intOf]; omega
          · have HR : Hid (strB a n = false) := strB_no (by
              rintro (h | ⟨i, hi, h⟩)
              · rw [HN.out, ← HU.out.1, ← HX.out] at h; exact HX1.out h
              · rw [HN.out, ← HU.out.1] at h
                rw [← HU.out.2] at hi
                exact HA.out i (by omega) h)
            go_wp2
            go_ret
            exact ⟨ret_bool HR.out.symm, rfl⟩
end Go.Proofs.Ytlabkedkamdomaa
