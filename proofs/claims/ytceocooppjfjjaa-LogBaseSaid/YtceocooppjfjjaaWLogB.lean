/- The walk of the statement LogBase. -/
import Derived.Test.YtceocooppjfjjaaWLogA
import Derived.Test.YtceocooppjfjjaaPrimM
import Derived.Test.YtceocooppjfjjaaPow
namespace Go.Proofs.Ytceocooppjfjjaa
open Go.RowKit
set_option linter.unusedVariables false
set_option linter.unusedSimpArgs false
/-- what is wrong with a prime -/
noncomputable def logE0 (p : Int) : Int := if p < 1 ∨ 1048576 < p then 2 else if prB p = true then 0 else 3
theorem logE0_zero {p : Int} (h : logE0 p = 0) : 1 ≤ p ∧ p ≤ 1048576 ∧ prB p = true := by
  unfold logE0 at h
  split at h
  · omega
  · split at h
    · rename_i h1 h2; exact ⟨by omega, by omega, h2⟩
    · omega
theorem log_wrong0 (p : Int) (w : World) :
    Calls Try.prog 42 #[.int .i64 p, .slice none 0 0] w fun e w' => e = .returned (.int .i64 (logE0 p)) ∧ Below w.heap.size w w' := by
  by_cases hp : p < 1 ∨ 1048576 < p
  · have HT : Hid (logE0 p = 2) := Lib.hid (by unfold logE0; rw [if_pos hp])
    have HC := Lib.hid fun w => primes_Is_out p w hp
    obtain ⟨T, hT⟩ : ∃ T, logE0 p = T := ⟨_, rfl⟩
    rw [hT] at HT ⊢
    clear hp hT
    go_enter Try.func42, Try.ntmps42
    go_wp2
    go_loop [11] (fun i => i = .int .i64 0) (fun i => 0)
    case atStart => exact rfl
    case round =>
      subst hrel
      go_wp2_with fail
      refine (HC.out _).mono ?_
      rintro e w1 ⟨rfl, hb1⟩
      go_wp2
      go_ret
      exact ⟨by rw [HT.out]; rfl, hb1⟩
  · have HT : Hid (logE0 p = if prB p = true then 0 else 3) := Lib.hid (by unfold logE0; rw [if_neg hp])
    have HC := Lib.hid fun w => primes_Is_in p w (by omega) (by omega)
    obtain ⟨T, hT⟩ : ∃ T, logE0 p = T := ⟨_, rfl⟩
    obtain ⟨B, hB⟩ : ∃ B, prB p = B := ⟨_, rfl⟩
    rw [hT, hB] at HT
    rw [hT]
    rw [hB] at HC
    clear hp hT hB
    go_enter Try.func42, Try.ntmps42
    go_wp2
    go_loop [11] (fun i => i = .int .i64 0) (fun i => 0)
    case atStart => exact rfl
    case round =>
      subst hrel
      go_wp2_with fail
      refine (HC.out _).mono ?_
      rintro e w1 ⟨rfl, hb1⟩
      cases B
      all_goals
        go_wp2
        go_ret
        exact ⟨by rw [HT.out]; rfl, hb1⟩
theorem log_Base_bad (p : Int) (w : World) (h : logE0 p ≠ 0) :
    Calls Try.prog 20 #[.int .i64 p] w fun e w' => e = .returned (.tuple #[.int .i64 0, .int .i64 (logE0 p)]) ∧ Below w.heap.size w w' := by
  have HC := Lib.hid fun w => log_wrong0 p w
  obtain ⟨T, hT⟩ : ∃ T, logE0 p = T := ⟨_, rfl⟩
  rw [hT] at HC h ⊢
  have t1 : (T != 0) = true := by simpa using h
  clear h hT
  go_enter Try.func20, Try.ntmps20
  go_wp2_with fail
  refine (HC.out _).mono ?_
  rintro e w1 ⟨rfl, hb1⟩
  go_wp2
  go_ret2
  exact ⟨rfl, hb1⟩
def BasePost (p : Int) (w : World) (e : Ending) (w' : World) : Prop := ∃ g : Int, e = .returned (.tuple #[.int .i64 g, .int .i64 0]) ∧ 1 ≤ g ∧ g < p ∧ Hid (M.IsOrd g p (p - 1).toNat) ∧ Below w.heap.size w w'
theorem far_small {x : Int} (h1 : 0 ≤ x) (h2 : x ≤ 1048576) : farB x = false := by
  cases e : farB x
  · rfl
  · rcases farB_true e with h | h <;> omega
theorem not_dvd_small {x : Int} {N : Nat} (h1 : 1 ≤ x) (h2 : x < N) : ¬ (N : Int) ∣ x := fun h => by
  have := Int.le_of_dvd (by omega) h
  omega
set_option maxHeartbeats 1600000 in
theorem log_Base (p : Int) (w : World) (h : logE0 p = 0) :
    Calls Try.prog 20 #[.int .i64 p] w (BasePost p w) := by
  obtain ⟨p1, p2, pp⟩ := logE0_zero h
  obtain ⟨N, rfl⟩ := Int.eq_ofNat_of_zero_le (show 0 ≤ p by omega)
  have hp : M.Pr N := by have := prB_true pp; simpa using this
  have n2 := hp.1
  have HC := Lib.hid fun w => log_wrong0 N w
  rw [h] at HC
  obtain ⟨r, r1, r2, r3⟩ := M.prim_root hp
  have HO : Hid (∀ (x : Int) (w : World), 1 ≤ x → x < N → Calls Try.prog 15 #[.int .i64 x, .int .i64 N] w (OrdPost x N w)) := Lib.hid fun x w h1 h2 =>
    power_Order x N w (far_small (by omega) (by omega)) p1 p2 (gcd_prime hp (not_dvd_small h1 h2))
  have HR := Lib.hid r3
  have z2 : IntKind.i64.wrap ((N : Int) - 1) = (N : Int) - 1 := IntWalk.i64_in _ (by omega)
  clear h pp hp r3
  go_enter Try.func20, Try.ntmps20
  go_wp2_with fail
  refine (HC.out _).mono ?_
  rintro e w1 ⟨rfl, hb1⟩
  go_wp2
  go_loopw [5] (fun g wr => ∃ G : Int, g = .int .i64 G ∧ 1 ≤ G ∧ G ≤ r ∧ Below w1.heap.size w1 wr) (fun g _ => (r - intOf g).toNat)
  case atStart => exact ⟨1, rfl, by omega, r1, Below.refl _ _⟩
  case round =>
    obtain ⟨G, rfl, g1, g2, hb⟩ := hrel
    go_wp2_with fail
    refine (HO.out G wr g1 (by omega)).mono ?_
    rintro e w3 ⟨o, rfl, ho, o2, hb3⟩
    have hbb := below_two hb hb3
    by_cases ho2 : (o : Int) = (N : Int) - 1
    · have HI : Hid (M.IsOrd G (N : Int) ((N : Int) - 1).toNat) := Lib.hid (by rw [← ho2, Int.toNat_natCast]; exact ho)
      have t1 : ((o : Int) == (N : Int) - 1) = true := by rw [ho2]; simp
      have o1 := ho.1
      clear ho ho2 hb hb3
      go_wp2
      go_ret2
      exact ⟨G, rfl, g1, by omega, HI, below_two hb1 hbb⟩
    · have t1 : ((o : Int) == (N : Int) - 1) = false := by simpa using ho2
      have hlt : G < r := by
        rcases Decidable.em (G < r) with h | h
        · exact h
        · obtain rfl : G = r := by omega
          have e1 := Nat.le_of_dvd (by omega) (ho.2.2 _ HR.out.2.1)
          have e2 := Nat.le_of_dvd ho.1 (HR.out.2.2 _ ho.2.1)
          omega
      clear ho ho2 hb hb3
      go_wp2
      go_round
      case rel => exact ⟨G + 1, by go_num, by omega, by omega, hbb⟩
      case measure => simp [intOf]; omega
end Go.Proofs.Ytceocooppjfjjaa
