/- The walk of the statement WalshParseval. -/
import Derived.Test.YtabhmhojlhagcaaWav
namespace Go.Proofs.Ytabhmhojlhagcaa
open Go.RowKit
set_option linter.unusedVariables false
set_option linter.unusedSimpArgs false
theorem wf32 {a : Int} (h : (Lit.int .u32 a).wf = true) : 0 ≤ a ∧ a < 4294967296 := by
  have := h
  simp [Lit.wf, IntKind.min, IntKind.max, IntKind.signed, go_sem] at this
  omega
set_option maxHeartbeats 1600000 in
theorem ref_FunctionCheck (n : Int) (f : Nat) (w : World) (hf : f < 4294967296) :
    Calls Try.prog 29 #[.int .i64 n, .int .u32 f] w fun e w' => e = .returned (.bool (funB n f)) ∧ w = w' := by
  by_cases h0 : n < 0
  · have e : funB n f = false := by
      cases h : funB n f with
      | false => rfl
      | true => have := funB_yes.1 h; omega
    rw [e]
    clear e
    go_enter Try.func29, Try.ntmps29
    go_wp2
    go_ret
    exact ⟨ret_bool (by simp), rfl⟩
  · by_cases h5 : 5 < n
    · have e : funB n f = false := by
        cases h : funB n f with
        | false => rfl
        | true => have := funB_yes.1 h; omega
      rw [e]
      clear e
      go_enter Try.func29, Try.ntmps29
      go_wp2
      go_ret
      exact ⟨ret_bool (by simp), rfl⟩
    · rcases small_n (by omega) (by omega : n ≤ 5) with rfl | rfl | rfl | rfl | rfl | rfl
      all_goals
        go_enter Try.func29, Try.ntmps29
        go_wp2
        go_ret
        refine ⟨ret_bool ?_, rfl⟩
        rw [Bool.eq_iff_iff]
        simp [funB]
        try omega
theorem keep_function (n : Int) (f : Nat) (w : World) (hf : f < 4294967296) :
    Calls Try.prog 12 #[.int .i64 n, .int .u32 f] w fun e w' => e = .returned (.bool (funB n f)) ∧ w = w' := by
  have H := Lib.hid fun w => ref_FunctionCheck n f w hf
  go_enter Try.func12, Try.ntmps12
  go_wp2_with fail
  refine (H.out _).mono ?_
  rintro e w' ⟨rfl, rfl⟩
  go_wp2
  go_ret
  exact ⟨rfl, rfl⟩
theorem walsh_Waves_no (n : Int) (f : Nat) (w : World) (hf : f < 4294967296) (h : funB n f = false) :
    Calls Try.prog 11 #[.int .i64 n, .int .u32 f] w fun e w' => e = .returned (.tuple #[.slice none 0 0, .int .i64 2]) ∧ w = w' := by
  have HO := Lib.hid fun w => walsh_out n f w hf
  rw [h] at HO
  clear h
  go_enter Try.func11, Try.ntmps11
  go_wp2_with fail
  refine (HO.out _).mono ?_
  rintro e w' ⟨rfl, rfl⟩
  go_wp2
  go_ret2
  exact ⟨rfl, rfl⟩
theorem sq_bd {v B : Int} (h1 : -B ≤ v) (h2 : v ≤ B) : 0 ≤ v * v ∧ v * v ≤ B * B := by
  rcases Int.le_total 0 v with h | h
  · exact ⟨Int.mul_nonneg h h, Int.mul_le_mul h2 h2 h (by omega)⟩
  · have e : v * v = (-v) * (-v) := by rw [Int.neg_mul_neg]
    rw [e]
    exact ⟨Int.mul_nonneg (by omega) (by omega), Int.mul_le_mul (by omega) (by omega) (by omega) (by omega)⟩
set_option maxRecDepth 100000 in
set_option maxHeartbeats 3200000 in
theorem WWalshParseval (a0 : Int) (a1 : Int) (w : World) (w0 : (Lit.int .i64 a0).wf = true) (w1 : (Lit.int .u32 a1).wf = true) :
    Calls Try.prog 3 #[.int .i64 a0, .int .u32 a1] w fun e w' => e = .returned (.bool true) ∧ Below w.heap.size w w' := by
  have h1 := wf32 w1
  obtain ⟨f, rfl⟩ := Int.eq_ofNat_of_zero_le h1.1
  have hf : f < 4294967296 := by omega
  clear w0 w1 h1
  have HK := Lib.hid fun w => keep_function a0 f w hf
  by_cases hfun : funB a0 f = true
  · rw [hfun] at HK
    obtain ⟨h1, h2, h3⟩ := funB_yes.1 hfun
    obtain ⟨n, rfl⟩ := Int.eq_ofNat_of_zero_le h1
    have hn : n ≤ 5 := by omega
    have HW := Lib.hid fun w => walsh_Waves n f w hn (by simpa using h3)
    have hN : 2 ^ n ≤ 32 := Nat.pow_le_pow_right (n := 2) (by omega) hn
    have hsz := pow2_n hn
    have hsz2 : wrap64 ((2 : Int) ^ (2 * n)) = ((4 ^ n : Nat) : Int) := by
      rcases (by omega : n = 0 ∨ n = 1 ∨ n = 2 ∨ n = 3 ∨ n = 4 ∨ n = 5) with rfl | rfl | rfl | rfl | rfl | rfl <;> simp [wrap64]
    have HP := Lib.hid (parseval (f := f) hn)
    have hwb : ∀ u, u < 2 ^ n → -32 ≤ walN n f u ∧ walN n f u ≤ 32 := fun u hu => by
      have := sum_bound (n := n) (K := n) (sgn f) (sgn_cases f) u
      rw [Nat.mod_eq_of_lt hu, Nat.sub_self] at this
      simp only [Nat.zero_add] at this
      unfold walN
      omega
    have HWB := Lib.hid hwb
    have HG := Lib.hid fun u (h : u < 2 ^ n) => wavesL_get (f := f) h
    obtain ⟨N, hNe⟩ : ∃ N, N = 2 ^ n := ⟨_, rfl⟩
    rw [← hNe] at HW hN hsz HP HWB HG
    clear hfun h1 h2 h3 hNe hwb
    go_enter Try.func3, Try.ntmps3
    go_wp2_with fail
    refine (HW.out _).mono ?_
    rintro e w1 ⟨g, cap, rfl, hb1, hr1⟩
    go_wp2_with fail
    refine (HK.out _).mono ?_
    rintro e w' ⟨rfl, rfl⟩
    go_wp2
    go_loopw [7, 24] (fun s i wr => ∃ I : Nat, i = .int .i64 I ∧ I ≤ N ∧ s = .int .i64 (SumI I (fun u => walN n f u * walN n f u)) ∧ w1 = wr) (fun _ i _ => N - (intOf i).toNat)
    case atStart => exact ⟨0, rfl, by omega, rfl, rfl⟩
    case round =>
      obtain ⟨I, rfl, hI, rfl, rfl⟩ := hrel
      by_cases hlt : I < N
      · have kx := own_cell hr1 (i := I) (u := .int .i64 (walN n f I)) (by simp [inV, HG.out I hlt])
        have hb := HWB.out I hlt
        have hS := SumI_bound (n := I) (f := fun u => walN n f u * walN n f u) (B := 1024) (fun u hu => by
          have h := HWB.out u (by omega)
          have := sq_bd h.1 h.2
          omega)
        have hq := sq_bd hb.1 hb.2
        have HS1 := Lib.hid (show SumI (I + 1) (fun u => walN n f u * walN n f u) = SumI I (fun u => walN n f u * walN n f u) + walN n f I * walN n f I from rfl)
        obtain ⟨v, hv⟩ : ∃ v, walN n f I = v := ⟨_, rfl⟩
        rw [hv] at kx hb hq HS1
        obtain ⟨S, hSe⟩ : ∃ S, SumI I (fun u => walN n f u * walN n f u) = S := ⟨_, rfl⟩
        rw [hSe] at hS HS1
        have hS2 : -32768 ≤ S ∧ S ≤ 32768 := by
          have : (I : Int) * 1024 ≤ 32 * 1024 := Int.mul_le_mul_of_nonneg_right (by omega) (by omega)
          omega
        rw [hSe]
        clear hv hSe hS
        go_wp2
        go_round
        case rel => exact ⟨I + 1, by go_num, by omega, by rw [HS1.out], trivial⟩
        case measure => simp [intOf]; omega
      · obtain rfl : I = N := by omega
        rw [HP.out]
        go_wp2
        go_ret
        exact ⟨ret_bool (by simp), hb1⟩
  · have hfun : funB a0 f = false := by simpa using hfun
    rw [hfun] at HK
    have HW := Lib.hid fun w => walsh_Waves_no a0 f w hf hfun
    clear hfun
    go_enter Try.func3, Try.ntmps3
    go_wp2_with fail
    refine (HW.out _).mono ?_
    rintro e w' ⟨rfl, rfl⟩
    go_wp2_with fail
    refine (HK.out _).mono ?_
    rintro e w' ⟨rfl, rfl⟩
    go_wp2
    go_ret
    exact ⟨ret_bool (by simp), Below.refl _ _⟩
end Go.Proofs.Ytabhmhojlhagcaa
