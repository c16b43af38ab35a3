/- The walk of the statement WalshBack. -/
import Derived.Test.YtabhmhojlhagcaaAnf
namespace Go.Proofs.Ytabhmhojlhagcaa
open Go.RowKit
set_option linter.unusedVariables false
set_option linter.unusedSimpArgs false
set_option maxHeartbeats 1600000 in
theorem ref_Ones (x : Nat) (w : World) (hx : x < 32) :
    Calls Try.prog 14 #[.int .i64 x] w fun e w' => e = .returned (.int .i64 (pop5 x : Nat)) ∧ w = w' := by
  obtain ⟨P, hP⟩ : ∃ P, pop5 x = P := ⟨_, rfl⟩
  rw [hP]
  have HP := Lib.hid hP
  clear hP
  go_enter Try.func14, Try.ntmps14
  go_wp2
  go_loop [0, 3] (fun y s => ∃ Y S : Nat, y = .int .i64 Y ∧ s = .int .i64 S ∧ Y < 32 ∧ S ≤ 5 ∧ Hid (S + pop5 Y = pop5 x)) (fun y _ => (intOf y).toNat)
  case atStart => exact ⟨x, 0, rfl, rfl, hx, by omega, Lib.hid (Nat.zero_add _)⟩
  case round =>
    obtain ⟨Y, S, rfl, rfl, hY, hS, hrel⟩ := hrel
    by_cases h0 : 0 < Y
    · have h5 : pop5 x ≤ 5 := by unfold pop5; omega
      have hn : S + Y % 2 + pop5 (Y / 2) = pop5 x := by
        rw [← hrel.out]; unfold pop5; omega
      have HN := Lib.hid hn
      have hs5 : S + Y % 2 ≤ 5 := by omega
      clear hn h5
      go_wp2
      go_round
      case rel => exact ⟨Y / 2, S + Y % 2, by go_num, by go_num, by omega, hs5, HN⟩
      case measure => simp [intOf]; omega
    · obtain rfl : Y = 0 := by omega
      go_wp2
      go_ret
      refine ⟨ret_int ?_, rfl⟩
      have h1 := hrel.out
      have h2 : pop5 0 = 0 := rfl
      have h3 := HP.out
      omega
set_option maxHeartbeats 1600000 in
theorem ref_Bit (f x : Nat) (w : World) (hx : x < 32) (hf : f < 4294967296) :
    Calls Try.prog 15 #[.int .u32 f, .int .i64 x] w fun e w' => e = .returned (.int .i64 (bitI f x)) ∧ w = w' := by
  have hP : (2 : Int) ^ x % 4294967296 = ((2 ^ x : Nat) : Int) := by
    have hQ : 2 ^ x ≤ 2147483648 := Nat.pow_le_pow_right (n := 2) (by omega) (show x ≤ 31 by omega)
    have e1 : (2 : Int) ^ x = ((2 ^ x : Nat) : Int) := by rw [Int.natCast_pow]; rfl
    rw [e1]
    generalize 2 ^ x = P at *
    omega
  have hp0 : 0 < 2 ^ x := Nat.pow_pos (by omega)
  have hb : bitI f x = ((f / 2 ^ x % 2 : Nat) : Int) := rfl
  obtain ⟨P, hPe⟩ : ∃ P, 2 ^ x = P := ⟨_, rfl⟩
  rw [hPe] at hP hp0 hb
  have p0 : ¬ (P : Int) = 0 := by omega
  have HB := Lib.hid hb
  clear hPe hb
  have hdiv : 0 ≤ (f : Int) / P ∧ (f : Int) / P < 4294967296 := by
    rw [← Int.natCast_ediv]
    have := Nat.div_le_self f P
    generalize f / P = q at this ⊢
    omega
  by_cases h1 : f / P % 2 = 1
  · have e1 : ((f : Int) / (P : Int) % 2 == 1) = true := by
      rw [beq_iff_eq, ← Int.natCast_ediv]; omega
    have HH := Lib.hid h1
    clear h1
    go_enter Try.func15, Try.ntmps15
    go_wp2
    go_ret
    exact ⟨ret_int (by rw [HB.out, HH.out]; rfl), rfl⟩
  · have e1 : ((f : Int) / (P : Int) % 2 == 1) = false := by
      rw [beq_eq_false_iff_ne, ← Int.natCast_ediv]; omega
    have HH : Hid (f / P % 2 = 0) := Lib.hid (by omega)
    clear h1
    go_enter Try.func15, Try.ntmps15
    go_wp2
    go_ret
    exact ⟨ret_int (by rw [HB.out, HH.out]; rfl), rfl⟩
set_option maxRecDepth 100000 in
set_option maxHeartbeats 6400000 in
theorem WWalshBack (a0 : Int) (a1 : Int) (w : World) (w0 : (Lit.int .i64 a0).wf = true) (w1 : (Lit.int .u32 a1).wf = true) :
    Calls Try.prog 4 #[.int .i64 a0, .int .u32 a1] w fun e w' => e = .returned (.bool true) ∧ Below w.heap.size w w' := by
  have h1 := wf32 w1
  obtain ⟨f, rfl⟩ := Int.eq_ofNat_of_zero_le h1.1
  have hf : f < 4294967296 := by omega
  clear w0 w1 h1
  have HK := Lib.hid fun w => keep_function a0 f w hf
  by_cases hfun : funB a0 f = true
  · rw [hfun] at HK
    obtain ⟨h1, h2, h3⟩ := funB_yes.1 hfun
    obtain ⟨n, rfl⟩ := Int.eq_ofNat_of_zero_le h1
    have hn : n ≤ 5 := by omega
    have h3' : f < 2 ^ 2 ^ n := by simpa using h3
    have HW := Lib.hid fun w => walsh_Waves n f w hn h3'
    have HA := Lib.hid fun w => walsh_Anf n f w hn h3'
    have HA2 := Lib.hid fun w => walsh_Anf n (anfN n f) w hn (anfN_lt n f)
    rw [anfN_back hn h3'] at HA2
    have hN : 2 ^ n ≤ 32 := Nat.pow_le_pow_right (n := 2) (by omega) hn
    have hsz := pow2_n hn
    have HP := Lib.hid fun x (h : x < 2 ^ n) => walN_back (f := f) hn h
    have hwb : ∀ u, u < 2 ^ n → -32 ≤ walN n f u ∧ walN n f u ≤ 32 := fun u hu => by
      have := sum_bound (n := n) (K := n) (sgn f) (sgn_cases f) u
      rw [Nat.mod_eq_of_lt hu, Nat.sub_self] at this
      simp only [Nat.zero_add] at this
      unfold walN
      omega
    have HWB := Lib.hid hwb
    have HG := Lib.hid fun u (h : u < 2 ^ n) => wavesL_get (f := f) h
    have e2n : (2 : Int) ^ n = ((2 ^ n : Nat) : Int) := by rw [Int.natCast_pow]; rfl
    obtain ⟨N, hNe⟩ : ∃ N, N = 2 ^ n := ⟨_, rfl⟩
    rw [← hNe] at HW hN hsz HP HWB HG e2n
    obtain ⟨A, hA⟩ : ∃ A, anfN n f = A := ⟨_, rfl⟩
    rw [hA] at HA HA2
    have E2N := Lib.hid e2n
    clear hfun h1 h2 h3 h3' hNe hwb hA e2n
    have d1 : ((f : Int) != (f : Int)) = false := by simp
    have d2 : ((N : Int) != (N : Int)) = false := by simp
    go_enter Try.func4, Try.ntmps4
    go_wp2_with fail
    refine (HW.out _).mono ?_
    rintro e w1 ⟨g, cap, rfl, hb1, hr1⟩
    go_wp2_with fail
    refine (HA.out _).mono ?_
    rintro e w2 ⟨rfl, hb2⟩
    replace hr1 := own_keep hr1 hb2
    replace hb2 := below_two hb1 hb2
    go_wp2_with fail
    refine (HK.out _).mono ?_
    rintro e w' ⟨rfl, rfl⟩
    go_wp2_with fail
    refine (HA2.out _).mono ?_
    rintro e w3 ⟨rfl, hb3⟩
    replace hr1 := own_keep hr1 hb3
    replace hb3 := below_two hb2 hb3
    clear hb1 hb2
    go_wp2
    clear hsz d1 d2
    go_loopw [11] (fun x wr => ∃ X : Nat, x = .int .i64 X ∧ X ≤ N ∧ w3 = wr) (fun x _ => N - (intOf x).toNat)
    case atStart => exact ⟨0, rfl, by omega, rfl⟩
    case round =>
      obtain ⟨X, rfl, hX, rfl⟩ := hrel
      by_cases hlt : X < N
      · have HPX := Lib.hid (HP.out X hlt)
        go_wp2
        go_loopw [12, 13] (fun s u wr => ∃ U : Nat, u = .int .i64 U ∧ U ≤ N ∧ s = .int .i64 (SumI U (fun u => chi (X &&& u) * walN n f u)) ∧ w3 = wr) (fun _ u _ => N - (intOf u).toNat)
        case atStart => exact ⟨0, rfl, by omega, rfl, rfl⟩
        case round =>
          obtain ⟨U, rfl, hU, rfl, rfl⟩ := hrel
          by_cases hlu : U < N
          · have kx := own_cell hr1 (i := U) (u := .int .i64 (walN n f U)) (by simp [inV, HG.out U hlu])
            have hb := HWB.out U hlu
            have hS := SumI_bound (n := U) (f := fun u => chi (X &&& u) * walN n f u) (B := 32) (fun u hu => by
              have := HWB.out u (by omega)
              rcases chi_cases (X &&& u) with h | h <;> rw [h] <;> omega)
            have HS1 := Lib.hid (show SumI (U + 1) (fun u => chi (X &&& u) * walN n f u) = SumI U (fun u => chi (X &&& u) * walN n f u) + chi (X &&& U) * walN n f U from rfl)
            have hand : bits .and .i64 (U : Int) (X : Int) = ((X &&& U : Nat) : Int) := by rw [i64_and_nat U X (by omega) (by omega), Nat.and_comm]
            have hm : X &&& U < 32 := Nat.lt_of_le_of_lt Nat.and_le_left (by omega)
            obtain ⟨v, hv⟩ : ∃ v, walN n f U = v := ⟨_, rfl⟩
            rw [hv] at kx hb HS1
            obtain ⟨S, hSe⟩ : ∃ S, SumI U (fun u => chi (X &&& u) * walN n f u) = S := ⟨_, rfl⟩
            rw [hSe] at hS HS1
            have hS2 : -1024 ≤ S ∧ S ≤ 1024 := by
              have : (U : Int) * 32 ≤ 32 * 32 := Int.mul_le_mul_of_nonneg_right (by omega) (by omega)
              omega
            rw [hSe]
            obtain ⟨m, hme⟩ : ∃ m, X &&& U = m := ⟨_, rfl⟩
            rw [hme] at HS1 hand hm
            have HO := Lib.hid fun w => ref_Ones m w hm
            have hp5 : pop5 m ≤ 5 := by unfold pop5; omega
            have hchi : chi m = if pop5 m % 2 = 0 then 1 else -1 := rfl
            obtain ⟨p, hpe⟩ : ∃ p, pop5 m = p := ⟨_, rfl⟩
            rw [hpe] at HO hp5 hchi
            clear hv hSe hS hme hpe
            by_cases hpar : p % 2 = 0
            · rw [if_pos hpar] at hchi
              rw [hchi] at HS1
              have e1 : ((p : Int) % 2 == 0) = true := by rw [beq_iff_eq]; omega
              clear hpar hchi
              go_wp2_with fail
              refine (HO.out _).mono ?_
              rintro e w' ⟨rfl, rfl⟩
              go_wp2
              go_round
              case rel => exact ⟨U + 1, by go_num, by omega, by rw [HS1.out, Int.one_mul], trivial⟩
              case measure => simp [intOf]; omega
            · rw [if_neg hpar] at hchi
              rw [hchi] at HS1
              have e1 : ((p : Int) % 2 == 0) = false := by rw [beq_eq_false_iff_ne]; omega
              clear hpar hchi
              go_wp2_with fail
              refine (HO.out _).mono ?_
              rintro e w' ⟨rfl, rfl⟩
              go_wp2
              go_round
              case rel => exact ⟨U + 1, by go_num, by omega, by rw [HS1.out, Int.neg_one_mul, ← Int.sub_eq_add_neg], trivial⟩
              case measure => simp [intOf]; omega
          · obtain rfl : U = N := by omega
            rw [HPX.out]
            have hsg : sgn f X = 1 - 2 * bitI f X := rfl
            rw [hsg]
            have HBt := Lib.hid fun w => ref_Bit f X w (by omega) hf
            have hb01 := bitI_cases f X
            obtain ⟨b, hbe⟩ : ∃ b, bitI f X = b := ⟨_, rfl⟩
            rw [hbe] at HBt hb01 ⊢
            clear hsg hbe
            have hb0 : 0 ≤ b ∧ b ≤ 1 := by omega
            have hfin : ((U : Int) * (1 - 2 * b) != wrap64 ((1 - 2 * b) * 2 ^ n)) = false := by
              rw [E2N.out, Int.mul_comm]
              simp only [bne_eq_false_iff_eq]
              rcases hb01 with rfl | rfl <;> (unfold wrap64; omega)
            clear hb01
            go_wp2_with fail
            refine (HBt.out _).mono ?_
            rintro e w' ⟨rfl, rfl⟩
            go_wp2
            go_round
            case rel => exact ⟨X + 1, by go_num, by omega, trivial⟩
            case measure => simp [intOf]; omega
      · go_wp2
        go_ret
        exact ⟨ret_bool (by simp), hb3⟩
  · have hfun : funB a0 f = false := by simpa using hfun
    rw [hfun] at HK
    have HW := Lib.hid fun w => walsh_Waves_no a0 f w hf hfun
    have HA := Lib.hid fun w => walsh_Anf_no a0 f w hf hfun
    clear hfun
    go_enter Try.func4, Try.ntmps4
    go_wp2_with fail
    refine (HW.out _).mono ?_
    rintro e w' ⟨rfl, rfl⟩
    go_wp2_with fail
    refine (HA.out _).mono ?_
    rintro e w' ⟨rfl, rfl⟩
    go_wp2_with fail
    refine (HK.out _).mono ?_
    rintro e w' ⟨rfl, rfl⟩
    go_wp2
    go_ret
    exact ⟨ret_bool (by simp), Below.refl _ _⟩
end Go.Proofs.Ytabhmhojlhagcaa
