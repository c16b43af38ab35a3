/- The contract of squares.climb. -/
import Derived.Test.YtlabkedkamdomaaTonM
import Derived.Test.YtlabkedkamdomaaJac
import Derived.Test.YtlabkedkamdomaaPow
import Derived.BigQuiet
namespace Go.Proofs.Ytlabkedkamdomaa
open Go.RowKit
set_option linter.unusedVariables false
set_option linter.unusedSimpArgs false
theorem sq_mod {T N : Int} {I : Nat} {U : Int} (h : U = T ^ 2 ^ I % N) : U * U % N = T ^ 2 ^ (I + 1) % N := by
  rw [h, ← Int.mul_emod, ← sq_eq, ← pow_two_succ]
set_option maxRecDepth 100000 in
set_option maxHeartbeats 6400000 in
theorem squares_climb (a : Int) (N : Nat) (w : World) (hp : M.Pr N) (h3 : 3 ≤ N) (hN : N ≤ 1048576) (ho : N % 2 = 1) (ha : M.jac a N = 1) :
    Calls Try.prog 46 #[.int .i64 a, .int .i64 N] w fun e w' => (∃ X : Int, e = .returned (.int .i64 X) ∧ 0 ≤ X ∧ X < N ∧ Hid (X * X % (N : Int) = a % N)) ∧ Below w.heap.size w w' := by
  obtain ⟨r, r1, r2, r3⟩ := nonres hp ho
  have HR := Lib.hid r3
  have HI := Lib.hid fun (S Q : Nat) (z : Int) (hS : 1 ≤ S) (hQ : 2 ^ S * Q = N - 1) (hq : Q % 2 = 1) (hz : M.jac z N = -1) => ton_init hp ho hS hQ hq ha hz
  have HSm := Lib.hid fun (S Q : Nat) (h : 2 ^ S * Q = N - 1) => two_small h h3 hN
  have HP := Lib.hid hp
  have HO := Lib.hid fun z w => squares_Of z N w (by omega) (by omega) (by omega)
  have HE := Lib.hid ho
  have HPw : Hid (∀ (a k : Int) (w : World), 0 ≤ k → k ≤ 1048577 → Calls Try.prog 40 #[.int .i64 a, .int .i64 k, .int .i64 N] w fun e w' => e = .returned (.int .i64 (a ^ k.toNat % N)) ∧ w = w') := Lib.hid fun a k w h1 h2 => power_Of a k N w h1 (by omega) (by omega) (by omega)
  have z1 : ((N : Int) == 0) = false := by simp; omega
  have z2 : ¬ (N : Int) = 0 := by omega
  have o2 : (1 : Int) % N = 1 := Int.emod_eq_of_lt (by omega) (by omega)
  have mm : ∀ x y : Int, 0 ≤ x → x < N → 0 ≤ y → y < N → 0 ≤ x * y ∧ x * y ≤ 1099511627776 := fun x y h1 h2 h4 h5 => mul_lim h1 (by omega) h4 (by omega)
  have MM := Lib.hid mm
  clear hp ho ha r3 mm
  go_enter Try.func46, Try.ntmps46
  go_wp2
  go_loop [5, 6] (fun q s => ∃ Q S : Nat, q = .int .i64 Q ∧ s = .int .i64 S ∧ Q ≤ 1048576 ∧ 1 ≤ Q ∧ S ≤ 20 ∧ Hid (2 ^ S * Q = N - 1)) (fun q _ => (intOf q).toNat)
  case atStart => exact ⟨N - 1, 0, by go_num, rfl, by omega, by omega, by omega, Lib.hid (by simp)⟩
  case round =>
    obtain ⟨Q, S, rfl, rfl, q1, q2, s1, HQ⟩ := hrel
    by_cases hev : Q % 2 = 0
    · have t1 : ((Q : Int) % 2 == 0) = true := by simp; omega
      have HQ2 : Hid (2 ^ (S + 1) * (Q / 2) = N - 1) := Lib.hid (by
        rw [← HQ.out, Nat.pow_succ, Nat.mul_assoc]; congr 1; omega)
      obtain ⟨k1, k2, k3⟩ := HSm.out _ _ HQ2.out
      clear hev
      go_wp2
      go_round
      case rel => exact ⟨Q / 2, S + 1, by go_num, by go_num, k3, k2, k1, HQ2⟩
      case measure => simp [intOf]; omega
    · have t1 : ((Q : Int) % 2 == 0) = false := by simp; omega
      have hS : 1 ≤ S := by
        rcases Nat.eq_zero_or_pos S with e | e
        · subst e
          have := HQ.out
          have := HE.out
          omega
        · exact e
      have HQo : Hid (Q % 2 = 1) := Lib.hid (by omega)
      clear hev
      go_wp2
      clear t1
      go_loop [7] (fun z => ∃ Z : Int, z = .int .i64 Z ∧ 2 ≤ Z ∧ Z ≤ r) (fun z => (r - intOf z).toNat)
      case atStart => exact ⟨2, rfl, by omega, r1⟩
      case round =>
        obtain ⟨Z, rfl, zz1, zz2⟩ := hrel
        by_cases hz : M.jac Z N = -1
        · have HOz := Lib.hid (HO.out Z w)
          rw [hz] at HOz
          have HTi := Lib.hid (HI.out S Q Z hS HQ.out HQo.out hz)
          obtain ⟨X0, hX0⟩ : ∃ X, a ^ ((Q + 1) / 2) % (N : Int) = X := ⟨_, rfl⟩
          obtain ⟨T0, hT0⟩ : ∃ X, a ^ Q % (N : Int) = X := ⟨_, rfl⟩
          obtain ⟨C0, hC0⟩ : ∃ X, Z ^ Q % (N : Int) = X := ⟨_, rfl⟩
          have bX : 0 ≤ X0 ∧ X0 < N := by rw [← hX0]; exact ⟨Int.emod_nonneg _ (by omega), Int.emod_lt_of_pos _ (by omega)⟩
          have bT : 0 ≤ T0 ∧ T0 < N := by rw [← hT0]; exact ⟨Int.emod_nonneg _ (by omega), Int.emod_lt_of_pos _ (by omega)⟩
          have bC : 0 ≤ C0 ∧ C0 < N := by rw [← hC0]; exact ⟨Int.emod_nonneg _ (by omega), Int.emod_lt_of_pos _ (by omega)⟩
          have P1 := Lib.hid (HPw.out Z Q w (by omega) (by omega))
          have P2 := Lib.hid (HPw.out a (((Q : Int) + 1) / 2) w (by omega) (by omega))
          have P3 := Lib.hid (HPw.out a Q w (by omega) (by omega))
          rw [Int.toNat_natCast] at P1 P3
          rw [show (((Q : Int) + 1) / 2).toNat = (Q + 1) / 2 by omega] at P2
          rw [hC0] at P1
          rw [hX0] at P2
          rw [hT0] at P3
          rw [hX0, hT0, hC0] at HTi
          clear hX0 hT0 hC0 hz
          go_wp2_with fail
          refine HOz.out.mono ?_
          rintro e w' ⟨rfl, rfl⟩
          go_wp2_with fail
          refine P1.out.mono ?_
          rintro e w' ⟨rfl, rfl⟩
          go_wp2_with fail
          refine P2.out.mono ?_
          rintro e w' ⟨rfl, rfl⟩
          go_wp2_with fail
          refine P3.out.mono ?_
          rintro e w' ⟨rfl, rfl⟩
          go_wp2
          clear HOz P1 P2 P3
          go_loopw [6, 8, 9, 10] (fun s c x t wr => ∃ (S' : Nat) (C X T : Int), s = .int .i64 S' ∧ c = .int .i64 C ∧ x = .int .i64 X ∧ t = .int .i64 T ∧ 1 ≤ S' ∧ S' ≤ 20 ∧ 0 ≤ C ∧ C < N ∧ 0 ≤ X ∧ X < N ∧ 0 ≤ T ∧ T < N ∧ Hid (Ton a N S' X T C) ∧ Below w.heap.size w wr) (fun s _ _ _ _ => (intOf s).toNat)
          case atStart => exact ⟨S, C0, X0, T0, rfl, rfl, rfl, rfl, hS, s1, bC.1, bC.2, bX.1, bX.2, bT.1, bT.2, HTi, Below.refl _ _⟩
          case round =>
            obtain ⟨S', C, X, T, rfl, rfl, rfl, rfl, u1, u2, c1, c2, x1, x2, y1, y2, HT, hb⟩ := hrel
            clear bX bT bC HTi
            by_cases ht : T = 1
            · subst ht
              have HF : Hid (X * X % (N : Int) = a % N) := Lib.hid (by have := HT.out.x; rwa [Int.mul_one] at this)
              go_wp2
              go_ret
              exact ⟨⟨X, rfl, x1, x2, HF⟩, hb⟩
            · have t1 : (T != 1) = true := by simpa using ht
              go_wp2
              go_loop [11, 12] (fun i u => ∃ (I : Nat) (U : Int), i = .int .i64 I ∧ u = .int .i64 U ∧ I ≤ S' - 1 ∧ 0 ≤ U ∧ U < N ∧ Hid (U = T ^ 2 ^ I % (N : Int)) ∧ Hid (∀ j, j < I → T ^ 2 ^ j % (N : Int) ≠ 1)) (fun i _ => S' - (intOf i).toNat)
              case atStart => exact ⟨0, T, rfl, rfl, by omega, y1, y2, Lib.hid (by rw [Nat.pow_zero, Int.pow_succ, Int.pow_zero, Int.one_mul, Int.emod_eq_of_lt y1 y2]), Lib.hid fun j hj => absurd hj (Nat.not_lt_zero _)⟩
              case round =>
                obtain ⟨I, U, rfl, rfl, i1, v1, v2, HU, HJ⟩ := hrel
                by_cases hu : U = 1
                · have hI0 : 1 ≤ I := by
                    rcases Nat.eq_zero_or_pos I with e | e
                    · exfalso
                      subst e
                      have := HU.out
                      rw [Nat.pow_zero, Int.pow_succ, Int.pow_zero, Int.one_mul, Int.emod_eq_of_lt y1 y2] at this
                      exact ht (this.symm.trans hu)
                    · exact e
                  have HU1 : Hid (T ^ 2 ^ I % (N : Int) = 1 % N) := Lib.hid (by rw [← HU.out, hu, o2])
                  have HU2 : Hid (T ^ 2 ^ (I - 1) % (N : Int) ≠ 1 % N) := Lib.hid (by rw [o2]; exact HJ.out (I - 1) (by omega))
                  subst hu
                  clear ht
                  have w1 : IntKind.i64.wrap ((S' : Int) - I) = (S' : Int) - I := IntWalk.i64_in _ (by omega)
                  have w2 : IntKind.i64.wrap ((S' : Int) - I - 1) = (S' : Int) - I - 1 := IntWalk.i64_in _ (by omega)
                  go_wp2
                  go_loop [60, 13] (fun k b => ∃ (K : Nat) (B : Int), k = .int .i64 K ∧ b = .int .i64 B ∧ K ≤ S' - I - 1 ∧ 0 ≤ B ∧ B < N ∧ Hid (B = C ^ 2 ^ K % (N : Int))) (fun k _ => S' - (intOf k).toNat)
                  case atStart => exact ⟨0, C, rfl, rfl, by omega, c1, c2, Lib.hid (by rw [Nat.pow_zero, Int.pow_succ, Int.pow_zero, Int.one_mul, Int.emod_eq_of_lt c1 c2])⟩
                  case round =>
                    obtain ⟨K, B, rfl, rfl, k1, b1, b2, HB⟩ := hrel
                    have m1 := MM.out B B b1 b2 b1 b2
                    have m2 : IntKind.i64.wrap (B * B) = B * B := IntWalk.i64_in _ (by omega)
                    have m3 : (B * B).tmod N = B * B % N := Int.tmod_eq_emod_of_nonneg (by omega)
                    by_cases hk : K < S' - I - 1
                    · have hk2 : (K : Int) < (S' : Int) - I - 1 := by omega
                      go_wp2
                      go_round
                      case rel => exact ⟨K + 1, B * B % N, by go_num, rfl, by omega, Int.emod_nonneg _ (by omega), Int.emod_lt_of_pos _ (by omega), Lib.hid (sq_mod HB.out)⟩
                      case measure => simp [intOf]; omega
                    · have hk2 : ¬ (K : Int) < (S' : Int) - I - 1 := by omega
                      obtain rfl : K = S' - I - 1 := by omega
                      have HNx := Lib.hid (HT.out.next HP.out hI0 (by omega) HU1.out HU2.out (B := B) (by rw [HB.out, Int.emod_emod]))
                      obtain ⟨D, hD⟩ : ∃ D, B * B % (N : Int) = D := ⟨_, rfl⟩
                      have d1 : 0 ≤ D ∧ D < N := by rw [← hD]; exact ⟨Int.emod_nonneg _ (by omega), Int.emod_lt_of_pos _ (by omega)⟩
                      have n1 := MM.out X B x1 x2 b1 b2
                      have n2 : IntKind.i64.wrap (X * B) = X * B := IntWalk.i64_in _ (by omega)
                      have n3 : (X * B).tmod N = X * B % N := Int.tmod_eq_emod_of_nonneg (by omega)
                      have l1 := MM.out T D y1 y2 d1.1 d1.2
                      have l2 : IntKind.i64.wrap (T * D) = T * D := IntWalk.i64_in _ (by omega)
                      have l3 : (T * D).tmod N = T * D % N := Int.tmod_eq_emod_of_nonneg (by omega)
                      rw [hD] at HNx m3
                      go_wp2
                      go_quiet (fail)
                      go_wp2
                      go_quiet (fail)
                      go_wp2
                      go_roundw
                      case rel => exact ⟨I, D, X * B % (N : Int), T * D % (N : Int), rfl, rfl, rfl, rfl, hI0, by omega, d1.1, d1.2, Int.emod_nonneg _ (by omega), Int.emod_lt_of_pos _ (by omega), Int.emod_nonneg _ (by omega), Int.emod_lt_of_pos _ (by omega), HNx, below_drewN (below_drewN hb _) _⟩
                      case measure => simp [intOf]; omega
                · have t2 : (U != 1) = true := by simpa using hu
                  have m1 := MM.out U U v1 v2 v1 v2
                  have m2 : IntKind.i64.wrap (U * U) = U * U := IntWalk.i64_in _ (by omega)
                  have m3 : (U * U).tmod N = U * U % N := Int.tmod_eq_emod_of_nonneg (by omega)
                  have hI2 : I < S' - 1 := by
                    rcases Nat.lt_or_ge I (S' - 1) with e | e
                    · exact e
                    · exfalso
                      obtain rfl : I = S' - 1 := by omega
                      exact hu (by rw [HU.out, HT.out.t, o2])
                  have HJ2 : Hid (∀ j, j < I + 1 → T ^ 2 ^ j % (N : Int) ≠ 1) := Lib.hid fun j hj => by
                    rcases Nat.lt_or_ge j I with e | e
                    · exact HJ.out j e
                    · obtain rfl : j = I := by omega
                      rw [← HU.out]; exact hu
                  clear hu ht
                  go_wp2
                  go_round
                  case rel => exact ⟨I + 1, U * U % N, by go_num, rfl, by omega, Int.emod_nonneg _ (by omega), Int.emod_lt_of_pos _ (by omega), Lib.hid (sq_mod HU.out), HJ2⟩
                  case measure => simp [intOf]; omega
        · have HOz := Lib.hid (HO.out Z w)
          have hlt : Z < r := by
            rcases Decidable.em (Z < r) with h | h
            · exact h
            · obtain rfl : Z = r := by omega
              exact absurd HR.out hz
          obtain ⟨J, hJ⟩ : ∃ J, M.jac Z N = J := ⟨_, rfl⟩
          rw [hJ] at HOz hz
          have t2 : (J != -1) = true := by simpa using hz
          clear hJ hz
          go_wp2_with fail
          refine HOz.out.mono ?_
          rintro e w' ⟨rfl, rfl⟩
          go_wp2
          go_round
          case rel => exact ⟨Z + 1, by go_num, by omega, by omega⟩
          case measure => simp [intOf]; omega
end Go.Proofs.Ytlabkedkamdomaa
