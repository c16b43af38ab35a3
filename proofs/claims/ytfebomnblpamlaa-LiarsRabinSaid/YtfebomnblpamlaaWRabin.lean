/- The contract of liars.Count and the walk of the statement LiarsRabin. -/
import Derived.Test.YtfebomnblpamlaaStrong
import Derived.Test.YtfebomnblpamlaaRefIs
namespace Go.Proofs.Ytfebomnblpamlaa
open Go.RowKit
set_option linter.unusedVariables false
set_option linter.unusedSimpArgs false
theorem strB_eq (a : Nat) (n : Int) : strB a n = M.strongB n.toNat a := rfl
theorem count_succ (n k : Nat) (hk : 1 ≤ k) : ((List.range' 1 k).filter (M.strongB n)).length = ((List.range' 1 (k - 1)).filter (M.strongB n)).length + if M.strongB n k = true then 1 else 0 := by
  obtain ⟨m, rfl⟩ : ∃ m, k = m + 1 := ⟨k - 1, by omega⟩
  rw [List.range'_1_concat, List.filter_append, List.length_append]
  simp only [Nat.add_sub_cancel, Nat.add_comm 1 m]
  congr 1
  simp only [List.filter_cons, List.filter_nil]
  split <;> simp
theorem count_le (n k : Nat) : ((List.range' 1 k).filter (M.strongB n)).length ≤ k := by
  have := List.length_filter_le (M.strongB n) (List.range' 1 k)
  simpa using this
set_option maxHeartbeats 1600000 in
theorem liars_Count (n : Int) (w : World) (h1 : 3 ≤ n) (h2 : n ≤ 4096) (h3 : n % 2 = 1) :
    Calls Try.prog 28 #[.int .i64 n] w fun e w' => e = .returned (.tuple #[.int .i64 (M.many n.toNat), .int .i64 0]) ∧ w = w' := by
  have c1 : (n % 2 == 0) = false := by simp; omega
  clear h3
  go_enter Try.func28, Try.ntmps28
  go_wp2
  go_loop [4, 5] (fun m a => ∃ K C : Nat, a = .int .i64 K ∧ m = .int .i64 C ∧ 1 ≤ K ∧ (K : Int) ≤ n ∧ C = ((List.range' 1 (K - 1)).filter (M.strongB n.toNat)).length) (fun _ a => (n - intOf a).toNat)
  case atStart => exact ⟨1, 0, rfl, rfl, by omega, by omega, rfl⟩
  case round =>
    obtain ⟨K, C, rfl, rfl, hK1, hK2, hC⟩ := hrel
    have hCl := count_le n.toNat (K - 1)
    rw [← hC] at hCl
    have HC := Lib.hid hC
    clear hC
    by_cases hlt : (K : Int) < n
    · have HS := Lib.hid (count_succ n.toNat K hK1)
      cases hs : strB (K : Int) n with
      | true =>
        have HR : Hid (M.strongB n.toNat K = true) := hs
        go_wp2_with (go_at_call 42; refine (liars_strong _ _ _ h1 (by omega)).mono ?_; rintro e w' ⟨rfl, rfl⟩)
        go_round
        case rel => exact ⟨K + 1, C + 1, by go_num, by go_num, by omega, by omega, by
          rw [Nat.add_sub_cancel, HS.out, if_pos HR.out, HC.out]⟩
        case measure => simp [intOf]; omega
      | false =>
        have HR : Hid (M.strongB n.toNat K = false) := hs
        go_wp2_with (go_at_call 42; refine (liars_strong _ _ _ h1 (by omega)).mono ?_; rintro e w' ⟨rfl, rfl⟩)
        go_round
        case rel => exact ⟨K + 1, C, by go_num, rfl, by omega, by omega, by
          rw [Nat.add_sub_cancel, HS.out, if_neg (by rw [HR.out]; simp), HC.out]; rfl⟩
        case measure => simp [intOf]; omega
    · have EK : Hid (K = n.toNat) := by have : K = n.toNat := by omega
                                        exact this
      go_wp2
      go_ret2
      exact ⟨by have h := HC.out; rw [EK.out] at h; unfold M.many; rw [← h]; rfl, rfl⟩
theorem liars_Count_no (n : Int) (w : World) (h : n < 3 ∨ (3 ≤ n ∧ 4096 < n) ∨ (3 ≤ n ∧ n ≤ 4096 ∧ (n % 2 == 0) = true)) :
    Calls Try.prog 28 #[.int .i64 n] w fun e w' => e = .returned (.tuple #[.int .i64 0, .int .i64 2]) ∧ w = w' := by
  rcases h with h | ⟨h, h2⟩ | ⟨h, h2, h3⟩
  all_goals
    go_enter Try.func28, Try.ntmps28
    go_wp2
    go_ret2
    exact ⟨rfl, rfl⟩
theorem many_prime {n : Nat} (h : M.Pr n) (h3 : 3 ≤ n) : M.many n = n - 1 := by
  unfold M.many
  rw [List.filter_eq_self.2]
  · simp
  · intro a ha
    have ha := List.mem_range'_1.1 ha
    exact M.strongB_iff.2 (M.strong_prime h h3 fun hd => by have := Int.le_of_dvd (by omega) hd; omega)
theorem many_two {n : Nat} (h3 : 3 ≤ n) (ho : n % 2 = 1) : 2 ≤ M.many n := by
  have hs := M.od_spec (m := n - 1) (by omega)
  have hev : 0 < M.ev (n - 1) := by
    apply Nat.pos_of_ne_zero
    intro e
    rw [e] at hs
    have h1 := hs.1
    have h2 := hs.2
    simp at h1
    omega
  have s1 : M.Strong ((1 : Nat) : Int) n := .inl (by rw [show ((1 : Nat) : Int) = 1 from rfl, Int.one_pow, Int.emod_eq_of_lt (show (0 : Int) ≤ 1 by omega) (by omega)])
  have s2 : M.Strong ((n - 1 : Nat) : Int) n := .inr ⟨0, hev, by
    obtain ⟨m, hm⟩ : ∃ m, M.od (n - 1) = 2 * m + 1 := ⟨M.od (n - 1) / 2, by have := hs.2; omega⟩
    rw [Nat.pow_zero, Nat.mul_one, hm]
    have e : ((n - 1 : Nat) : Int) % n = (-1) % n := by
      apply Int.emod_eq_emod_iff_emod_sub_eq_zero.2
      have : ((n - 1 : Nat) : Int) - -1 = n := by omega
      rw [this]; simp
    rw [M.pow_emod_congr e, Int.pow_succ, Int.pow_mul]
    have : ((-1 : Int)) ^ 2 = 1 := rfl
    rw [this, Int.one_pow, Int.one_mul, ← e, Int.emod_eq_of_lt (show (0 : Int) ≤ ((n - 1 : Nat) : Int) by omega) (by omega)]; omega⟩
  have := M.length_le_of_inj [1, n - 1] ((List.range' 1 (n - 1)).filter (M.strongB n)) (by simp; omega) (by
    intro x hx
    simp at hx
    rcases hx with rfl | rfl
    · exact List.mem_filter.2 ⟨List.mem_range'_1.2 (by omega), M.strongB_iff.2 s1⟩
    · exact List.mem_filter.2 ⟨List.mem_range'_1.2 (by omega), M.strongB_iff.2 s2⟩)
  simpa [M.many] using this
theorem nine_dec : ∀ a : Fin 9, 2 ≤ a.val → a.val ≤ 7 → ¬ (((a.val : Int) ^ M.od 8 % 9 = 1) ∨ ∃ i, i < M.ev 8 ∧ ((a.val : Int) ^ (M.od 8 * 2 ^ i) % 9 = 8)) := by decide +kernel
theorem many_nine : M.many 9 ≤ 2 := by
  have := M.length_le_of_inj ((List.range' 1 8).filter (M.strongB 9)) [1, 8] (List.Pairwise.filter _ (List.nodup_range' (step := 1))) (by
    intro x hx
    have hx := List.mem_filter.1 hx
    have h1 := List.mem_range'_1.1 hx.1
    have h2 := M.strongB_iff.1 hx.2
    by_cases e : x = 1
    · simp [e]
    · by_cases e8 : x = 8
      · simp [e8]
      · exact absurd h2 (nine_dec ⟨x, by omega⟩ (by simp; omega) (by simp; omega)))
  simpa [M.many] using this
theorem rabin_all {n : Nat} (h3 : 3 ≤ n) (hn : n ≤ 4096) (ho : n % 2 = 1) (hp : ¬ M.Pr n) : 4 * M.many n ≤ n - 1 := by
  by_cases h9 : n = 9
  · subst h9; have := many_nine; omega
  · exact M.rabin h3 (by omega) ho hp h9
set_option maxHeartbeats 1600000 in
theorem WLiarsRabin (a0 : Int) (w : World) (w0 : (Lit.int .i64 a0).wf = true) :
    Calls Try.prog 12 #[.int .i64 a0] w fun e w' => e = .returned (.bool true) ∧ Below w.heap.size w w' := by
  clear w0
  have hc : (a0 < 3 ∨ (3 ≤ a0 ∧ 4096 < a0) ∨ (3 ≤ a0 ∧ a0 ≤ 4096 ∧ (a0 % 2 == 0) = true)) ∨ (3 ≤ a0 ∧ a0 ≤ 4096 ∧ a0 % 2 = 1) := by
    by_cases e : a0 % 2 = 0
    · have e' : (a0 % 2 == 0) = true := by simpa using e
      by_cases h : a0 < 3
      · exact .inl (.inl h)
      · by_cases h2 : 4096 < a0
        · exact .inl (.inr (.inl ⟨by omega, h2⟩))
        · exact .inl (.inr (.inr ⟨by omega, by omega, e'⟩))
    · by_cases h : a0 < 3
      · exact .inl (.inl h)
      · by_cases h2 : 4096 < a0
        · exact .inl (.inr (.inl ⟨by omega, h2⟩))
        · exact .inr ⟨by omega, by omega, by omega⟩
  rcases hc with hc | ⟨h1, h2, h3⟩
  · have HC := Lib.hid hc
    rcases hc with h | ⟨h, h2⟩ | ⟨h, h2, h3⟩
    all_goals
      go_enter Try.func12, Try.ntmps12
      go_wp2_with (go_at_call 28; refine (liars_Count_no _ _ HC.out).mono ?_; rintro e w' ⟨rfl, rfl⟩)
      go_ret
      exact ⟨rfl, Below.refl _ _⟩
  · have c1 : (a0 % 2 == 0) = false := by simp; omega
    have m2 := many_two (n := a0.toNat) (by omega) (by omega)
    have hp : prB a0 = true → M.many a0.toNat = a0.toNat - 1 := fun h => many_prime (prB_true h) (by omega)
    have hq : prB a0 = false → 4 * M.many a0.toNat ≤ a0.toNat - 1 := fun h => rabin_all (by omega) (by omega) (by omega) (prB_false h)
    have H3 := Lib.hid h3
    clear h3
    obtain ⟨c, hcc⟩ : ∃ c, c = M.many a0.toNat := ⟨_, rfl⟩
    rw [← hcc] at m2 hp hq
    have HC := Lib.hid hcc
    clear hcc
    cases hpr : prB a0 with
    | true =>
      have e := hp hpr
      have e2 : ((c : Int) == a0 - 1) = true := by simp; omega
      clear hp hq e
      go_enter Try.func12, Try.ntmps12
      go_wp2_with fail
      refine (liars_Count _ _ h1 h2 H3.out).mono ?_
      rintro e w' ⟨rfl, rfl⟩
      rw [← HC.out]
      go_wp2_with (go_at_call 24; refine (ref_Is _ _ (by omega)).mono ?_; rintro e w' ⟨rfl, rfl⟩)
      go_ret
      exact ⟨ret_bool (by first | rfl | simp | (simp; omega)), Below.refl _ _⟩
    | false =>
      have e := hq hpr
      clear hp hq
      go_enter Try.func12, Try.ntmps12
      go_wp2_with fail
      refine (liars_Count _ _ h1 h2 H3.out).mono ?_
      rintro e w' ⟨rfl, rfl⟩
      rw [← HC.out]
      go_wp2_with (go_at_call 24; refine (ref_Is _ _ (by omega)).mono ?_; rintro e w' ⟨rfl, rfl⟩)
      go_ret
      exact ⟨ret_bool (by first | rfl | (simp; omega)), Below.refl _ _⟩
end Go.Proofs.Ytfebomnblpamlaa
