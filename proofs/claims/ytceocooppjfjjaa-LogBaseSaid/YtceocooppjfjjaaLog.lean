/- The contract of log.wrong. -/
import Derived.Test.YtceocooppjfjjaaLogM
import Derived.Test.YtceocooppjfjjaaPrC
namespace Go.Proofs.Ytceocooppjfjjaa
open Go.RowKit
set_option linter.unusedVariables false
set_option linter.unusedSimpArgs false
/-- what is wrong with a prime and two numbers -/
noncomputable def logE (p g a : Int) : Int := if farB g = true ∨ farB a = true then 2 else if p < 1 ∨ 1048576 < p then 2 else if prB p = true then 0 else 3
theorem logE_zero {p g a : Int} (h : logE p g a = 0) : farB g = false ∧ farB a = false ∧ 1 ≤ p ∧ p ≤ 1048576 ∧ prB p = true := by
  unfold logE at h
  split at h
  · omega
  · rename_i h1
    split at h
    · omega
    · split at h
      · rename_i h2 h3
        refine ⟨?_, ?_, by omega, by omega, h3⟩
        · cases e : farB g
          · rfl
          · exact absurd (Or.inl e) h1
        · cases e : farB a
          · rfl
          · exact absurd (Or.inr e) h1
      · omega
theorem logE_ok {p g a : Int} (h1 : farB g = false) (h2 : farB a = false) (h3 : 1 ≤ p) (h4 : p ≤ 1048576) (h5 : prB p = true) : logE p g a = 0 := by
  unfold logE
  rw [if_neg (by simp [h1, h2]), if_neg (by omega), if_pos h5]
set_option maxRecDepth 100000 in
set_option maxHeartbeats 3200000 in
theorem log_wrong (p g a : Int) (b : Nat) (w : World) (cg : w.cell? ⟨b, 0, none⟩ = some (.int .i64 g)) (ca : w.cell? ⟨b, 1, none⟩ = some (.int .i64 a)) :
    Calls Try.prog 42 #[.int .i64 p, .slice (some ⟨b, 0, none⟩) 2 2] w fun e w' => e = .returned (.int .i64 (logE p g a)) ∧ Below w.heap.size w w' := by
  have H1 : Hid (farB g = true → logE p g a = 2) := Lib.hid fun h => by unfold logE; rw [if_pos (Or.inl h)]
  have H2 : Hid (farB a = true → logE p g a = 2) := Lib.hid fun h => by unfold logE; rw [if_pos (Or.inr h)]
  have H3 : Hid (farB g = false → farB a = false → logE p g a = if p < 1 ∨ 1048576 < p then 2 else if prB p = true then 0 else 3) := Lib.hid fun h1 h2 => by unfold logE; rw [if_neg (by simp [h1, h2])]
  obtain ⟨T, hT⟩ : ∃ T, logE p g a = T := ⟨_, rfl⟩
  rw [hT] at H1 H2 H3 ⊢
  have gb : farB g = true ∨ (farB g = false ∧ -2147483648 ≤ g ∧ g ≤ 2147483648) := by
    cases e : farB g
    · have := farB_false e; exact .inr ⟨rfl, this⟩
    · exact .inl rfl
  have ab : farB a = true ∨ (farB a = false ∧ -2147483648 ≤ a ∧ a ≤ 2147483648) := by
    cases e : farB a
    · have := farB_false e; exact .inr ⟨rfl, this⟩
    · exact .inl rfl
  clear hT
  go_enter Try.func42, Try.ntmps42
  go_wp2
  go_loop [11] (fun i => ∃ I : Nat, i = .int .i64 I ∧ I ≤ 2 ∧ Hid ((1 ≤ I → farB g = false) ∧ (2 ≤ I → farB a = false))) (fun i => 2 - (intOf i).toNat)
  case atStart => exact ⟨0, rfl, Nat.zero_le _, Lib.hid ⟨fun h => by omega, fun h => by omega⟩⟩
  case round =>
    obtain ⟨I, rfl, hI, HZ⟩ := hrel
    have hc : I = 0 ∨ I = 1 ∨ I = 2 := by omega
    rcases hc with rfl | rfl | rfl
    · rcases gb with hf | ⟨hn, g1, g2⟩
      · have HF := Lib.hid (H1.out hf)
        have hb := farB_true hf
        clear hf
        rcases hb with hb | hb
        · go_wp2
          go_ret
          exact ⟨by rw [HF.out]; rfl, Below.refl _ _⟩
        · have hb' : ¬ g < -2147483648 := by omega
          go_wp2
          go_ret
          exact ⟨by rw [HF.out]; rfl, Below.refl _ _⟩
      · have HN := Lib.hid hn
        clear hn
        go_wp2
        go_round
        case rel => exact ⟨1, by go_num, by omega, Lib.hid ⟨fun _ => HN.out, fun h => by omega⟩⟩
        case measure => simp [intOf]
    · have HN := Lib.hid (HZ.out.1 (by omega))
      rcases ab with hf | ⟨hn, g1, g2⟩
      · have HF := Lib.hid (H2.out hf)
        have hb := farB_true hf
        clear hf
        rcases hb with hb | hb
        · go_wp2
          go_ret
          exact ⟨by rw [HF.out]; rfl, Below.refl _ _⟩
        · have hb' : ¬ a < -2147483648 := by omega
          go_wp2
          go_ret
          exact ⟨by rw [HF.out]; rfl, Below.refl _ _⟩
      · have HA := Lib.hid hn
        clear hn
        go_wp2
        go_round
        case rel => exact ⟨2, by go_num, by omega, Lib.hid ⟨fun _ => HN.out, fun _ => HA.out⟩⟩
        case measure => simp [intOf]
    · have HF := Lib.hid (H3.out (HZ.out.1 (by omega)) (HZ.out.2 (by omega)))
      clear gb ab
      by_cases hp : p < 1 ∨ 1048576 < p
      · have HT : Hid (T = 2) := Lib.hid (by rw [HF.out, if_pos hp])
        have HC := Lib.hid fun w => primes_Is_out p w hp
        clear hp
        go_wp2_with fail
        refine (HC.out _).mono ?_
        rintro e w1 ⟨rfl, hb1⟩
        go_wp2
        go_ret
        exact ⟨by rw [HT.out]; rfl, hb1⟩
      · have HC := Lib.hid fun w => primes_Is_in p w (by omega) (by omega)
        have HG : Hid (T = if prB p = true then 0 else 3) := Lib.hid (by rw [HF.out, if_neg hp])
        clear hp HF
        obtain ⟨B, hB⟩ : ∃ B, prB p = B := ⟨_, rfl⟩
        rw [hB] at HC HG
        clear hB
        go_wp2_with fail
        refine (HC.out _).mono ?_
        rintro e w1 ⟨rfl, hb1⟩
        cases B
        all_goals
          go_wp2
          go_ret
          exact ⟨by rw [HG.out]; rfl, hb1⟩
end Go.Proofs.Ytceocooppjfjjaa
