/- The reference's sum of a text. -/
import Derived.Test.YtgmkmlfppblpfaaPad
import Derived.Test.YtgmkmlfppblpfaaBit64
namespace Go.Proofs.Ytgmkmlfppblpfaa
open Go.RowKit
set_option linter.unusedVariables false
set_option linter.unusedSimpArgs false
theorem add_xor : ∀ a b : Nat, a + b = (a ^^^ b) + 2 * (a &&& b) := by
  intro a
  induction a using Nat.strongRecOn with
  | ind a ih =>
    intro b
    by_cases h : a = 0
    · subst h; simp
    · have e := ih (a / 2) (by omega) (b / 2)
      have x1 : (a ^^^ b) / 2 = a / 2 ^^^ b / 2 := Nat.xor_div_two
      have x2 : (a &&& b) / 2 = a / 2 &&& b / 2 := Nat.and_div_two
      have x3 : (a ^^^ b) % 2 = (a + b) % 2 := by
        have h5 : (a ^^^ b) % 2 = 1 ↔ ¬ (a % 2 = 1 ↔ b % 2 = 1) := Nat.xor_mod_two_eq_one
        by_cases h6 : (a ^^^ b) % 2 = 1
        · have := h5.1 h6; omega
        · have : a % 2 = 1 ↔ b % 2 = 1 := Decidable.not_not.1 fun h => h6 (h5.2 h)
          omega
      have x4 : (a &&& b) % 2 = 1 ↔ a % 2 = 1 ∧ b % 2 = 1 := Nat.and_mod_two_eq_one
      rw [← x1, ← x2] at e
      by_cases h4 : (a &&& b) % 2 = 1
      · have := x4.1 h4; omega
      · have : ¬ (a % 2 = 1 ∧ b % 2 = 1) := fun h => h4 (x4.2 h)
        omega
theorem ref_mixed (a b : Nat) (w : World) (h1 : a < 65536) (h2 : b < 65536) :
    Calls Try.prog 67 #[.int .i64 a, .int .i64 b] w fun e w' => e = .returned (.int .i64 ((a ^^^ b : Nat) : Int)) ∧ w = w' := by
  have HX := Lib.hid (add_xor a b)
  have h3 : a ^^^ b < 65536 := M.xor_lt16 h1 h2
  have hA := i64_and_nat a b (by omega) (by omega)
  obtain ⟨c, hc⟩ : ∃ c, a &&& b = c := ⟨_, rfl⟩
  obtain ⟨x, hx⟩ : ∃ x, a ^^^ b = x := ⟨_, rfl⟩
  rw [hc, hx] at HX
  rw [hc] at hA
  rw [hx] at h3 ⊢
  have hs := HX.out
  clear hc hx
  go_enter Try.func67, Try.ntmps67
  go_wp2
  go_ret
  exact ⟨ret_int (by omega), rfl⟩
theorem ref_Step (h b : Nat) (w : World) (h1 : h < 65536) (h2 : b < 256) :
    Calls Try.prog 61 #[.int .i64 h, .int .i64 b] w fun e w' => e = .returned (.int .i64 (M.stepN h b : Nat)) ∧ w = w' := by
  have h3 : h ^^^ b < 65536 := M.xor_lt16 h1 (by omega)
  have HS : Hid (M.stepN h b = ((h ^^^ b) * 40503 % 65536) ^^^ ((h ^^^ b) * 40503 % 65536 / 128)) := Lib.hid rfl
  have HM := Lib.hid (ref_mixed h b w h1 (by omega))
  obtain ⟨x, hx⟩ : ∃ x, h ^^^ b = x := ⟨_, rfl⟩
  rw [hx] at HS HM h3
  have HM2 := Lib.hid (ref_mixed (x * 40503 % 65536) (x * 40503 % 65536 / 128) w (by omega) (by omega))
  rw [← HS.out] at HM2
  clear hx
  obtain ⟨S, hS⟩ : ∃ S, M.stepN h b = S := ⟨_, rfl⟩
  rw [hS] at HM2 ⊢
  clear hS HS
  go_enter Try.func61, Try.ntmps61
  go_wp2_with fail
  refine HM.out.mono ?_
  rintro e w' ⟨rfl, rfl⟩
  go_wp2_with fail
  have e1 : (((x * 40503 % 65536 : Nat) : Int)) = (x : Int) * 40503 % 65536 := by omega
  have e2 : (((x * 40503 % 65536 / 128 : Nat) : Int)) = (x : Int) * 40503 % 65536 / 128 := by omega
  rw [e1, e2] at HM2
  refine HM2.out.mono ?_
  rintro e w' ⟨rfl, rfl⟩
  go_wp2
  go_ret
  exact ⟨rfl, rfl⟩
set_option maxRecDepth 20000 in
set_option maxHeartbeats 1600000 in
theorem ref_little (n m : Nat) (w : World) (hn : n ≤ 4611686018427387904) (hm : m ≤ 8) :
    Calls Try.prog 49 #[.int .i64 n, .int .i64 m] w fun e w' => ∃ v, e = .returned v ∧ Below w.heap.size w w' ∧ w'.ownsRow w.heap.size 5 1 v m (byV (litN n m)) := by
  go_enter Try.func49, Try.ntmps49
  obtain ⟨i0, hi, hz0, hz1, hz2⟩ := info_parts byte_info
  have hu : Try.prog.underlying 51 = some (.slice 5) := by kernel_rfl
  go_wp2
  go_loopw [0, 5, 6] (fun x v i wr => ∃ I : Nat, i = .int .i64 I ∧ x = .int .i64 ((n / 256 ^ I : Nat) : Int) ∧ I ≤ m ∧ Below w.heap.size w wr ∧ wr.ownsRow w.heap.size 5 1 v I (byV (litN n I))) (fun _ _ i _ => m - (intOf i).toNat)
  case atStart => exact ⟨0, rfl, by simp, by omega, Below.refl _ _, World.ownsRow_nil _ _ _ _⟩
  case round =>
    obtain ⟨I, rfl, rfl, hI, hb, hr⟩ := hrel
    have zr := hb.size
    by_cases hlt : I < m
    · have hN : n / 256 ^ I ≤ n := Nat.div_le_self _ _
      have hnext : n / 256 ^ I / 256 = n / 256 ^ (I + 1) := by rw [Nat.div_div_eq_div_mul, Nat.pow_succ]
      obtain ⟨N, hNe⟩ : ∃ N, N = n / 256 ^ I := ⟨_, rfl⟩
      rw [← hNe] at hN hnext
      rw [← hNe]
      have HN := Lib.hid hNe
      have HX := Lib.hid hnext
      have HL := Lib.hid (litN_snoc I n)
      clear hNe hnext
      go_wp2_with (first
        | (at_builtin; refine wpList_append_own _ rfl _ _ 51 rfl w.heap.size 5 i0 (.int .u8 0) 1 1 hu hi hz0 hz1 hz2 rfl (by decide) _ _ _ rfl (hr.alloc _) ⟨wr.heap.size, 0, none⟩ 1 1 [.int .u8 ((N : Int) % 256)] rfl rfl (cell_one_new _ _ _) (by simp [Value.oneCell']) (by unfold maxLen; omega) (by omega) (by simp; omega) ?_; intro v' w2 hown' hg2 hnil2))
      have s2 := hg2.size
      simp at s2
      go_round
      case rel =>
        refine ⟨I + 1, by go_num, ?_, by omega, ?_, ?_⟩
        · have := HX.out; rw [← this]; simp
        · exact (hb.alloc (by omega) _).grown hg2 (by simp; omega) (fun j hj => (hr.lt j hj).1)
        · rw [HL.out, byV_snoc, ← HN.out]
          simpa using hown'
      case measure => simp [intOf]; omega
    · obtain rfl : I = m := by omega
      go_wp2
      go_ret
      exact ⟨_, rfl, hb, hr⟩
end Go.Proofs.Ytgmkmlfppblpfaa
