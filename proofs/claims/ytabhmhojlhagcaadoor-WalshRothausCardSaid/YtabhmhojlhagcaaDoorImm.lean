/- Contracts: walsh.Degree beyond its range, walsh.Immune. -/
import Derived.Test.YtabhmhojlhagcaaDoorDeg
namespace Go.Proofs.YtabhmhojlhagcaaDoor
open Go.RowKit
set_option linter.unusedVariables false
set_option linter.unusedSimpArgs false
theorem walsh_Degree_no (n : Int) (f : Nat) (w : World) (hf : f < 4294967296) (h : funB n f = false) :
    Calls Tryd.prog 6 #[.int .i64 n, .int .u32 f] w fun e w' => e = .returned (.tuple #[.int .i64 0, .int .i64 2]) ∧ w = w' := by
  have HO := Lib.hid fun w => walsh_out n f w hf
  rw [h] at HO
  clear h
  go_enter Tryd.func6, Tryd.ntmps6
  go_wp2_with fail
  refine (HO.out _).mono ?_
  rintro e w' ⟨rfl, rfl⟩
  go_wp2
  go_ret2
  exact ⟨rfl, rfl⟩
theorem walsh_Immune_no (n : Int) (f : Nat) (k : Int) (w : World) (hf : f < 4294967296) (h : funB n f = false) :
    Calls Tryd.prog 8 #[.int .i64 n, .int .u32 f, .int .i64 k] w fun e w' => e = .returned (.tuple #[.bool false, .int .i64 2]) ∧ w = w' := by
  have HW := Lib.hid fun w => walsh_Waves_no n f w hf h
  clear h
  go_enter Tryd.func8, Tryd.ntmps8
  go_wp2_with fail
  refine (HW.out _).mono ?_
  rintro e w' ⟨rfl, rfl⟩
  go_wp2
  go_ret2
  exact ⟨rfl, rfl⟩
def immOne (n f k u : Nat) : Bool := decide (1 ≤ pop5 u) && decide (pop5 u ≤ k) && walN n f u != 0
def immB (n f k : Nat) : Bool := (List.range (2 ^ n)).all fun u => !immOne n f k u
theorem immB_yes {n f k : Nat} (h : immB n f k = true) : ∀ v, v < 2 ^ n → 1 ≤ pop5 v → pop5 v ≤ k → walN n f v = 0 := fun v hv h1 h2 => by
  have := List.all_eq_true.1 h v (List.mem_range.2 hv)
  unfold immOne at this
  rw [decide_eq_true h1, decide_eq_true h2] at this
  simpa using this
theorem immB_zero (n f : Nat) : immB n f 0 = true := List.all_eq_true.2 fun u _ => by
  unfold immOne
  by_cases h : 1 ≤ pop5 u
  · rw [decide_eq_false (show ¬ pop5 u ≤ 0 by omega)]; simp
  · rw [decide_eq_false h]; simp
theorem immB_of {n f k : Nat} (h : ∀ u, u < 2 ^ n → immOne n f k u = false) : immB n f k = true := List.all_eq_true.2 fun u hu => by rw [h u (List.mem_range.1 hu)]; rfl
theorem immB_stop {n f k u : Nat} (hu : u < 2 ^ n) (h : immOne n f k u = true) : immB n f k = false := by
  rw [Bool.eq_false_iff]; intro ha
  have := List.all_eq_true.1 ha u (List.mem_range.2 hu)
  rw [h] at this; cases this
theorem wal_bound {n f u : Nat} (hu : u < 2 ^ n) : -(2 ^ n : Nat) ≤ walN n f u ∧ walN n f u ≤ (2 ^ n : Nat) := by
  have := sum_bound (n := n) (K := n) (sgn f) (sgn_cases f) u
  rw [Nat.mod_eq_of_lt hu, Nat.sub_self] at this
  simp only [Nat.zero_add] at this
  unfold walN
  omega
set_option maxHeartbeats 1600000 in
theorem walsh_Immune_far (n f : Nat) (k : Int) (w : World) (hn : n ≤ 5) (hf : f < 2 ^ 2 ^ n) (hk : k < 0 ∨ (n : Int) < k) :
    Calls Tryd.prog 8 #[.int .i64 n, .int .u32 f, .int .i64 k] w fun e w' => e = .returned (.tuple #[.bool false, .int .i64 2]) ∧ Below w.heap.size w w' := by
  have HW := Lib.hid fun w => walsh_Waves n f w hn hf
  have hN : 2 ^ n ≤ 32 := Nat.pow_le_pow_right (n := 2) (by omega) hn
  obtain ⟨N, hNe⟩ : ∃ N, N = 2 ^ n := ⟨_, rfl⟩
  rw [← hNe] at HW hN
  clear hf hNe
  rcases hk with hk | hk
  · go_enter Tryd.func8, Tryd.ntmps8
    go_wp2_with fail
    refine (HW.out _).mono ?_
    rintro e w1 ⟨g, cap, rfl, hb1, hr1⟩
    go_wp2
    go_ret2
    exact ⟨rfl, hb1⟩
  · have hk0 : ¬ k < 0 := by omega
    go_enter Tryd.func8, Tryd.ntmps8
    go_wp2_with fail
    refine (HW.out _).mono ?_
    rintro e w1 ⟨g, cap, rfl, hb1, hr1⟩
    go_wp2
    go_ret2
    exact ⟨rfl, hb1⟩
set_option maxHeartbeats 1600000 in
theorem walsh_Immune (n f k : Nat) (w : World) (hn : n ≤ 5) (hf : f < 2 ^ 2 ^ n) (hk : k ≤ n) :
    Calls Tryd.prog 8 #[.int .i64 n, .int .u32 f, .int .i64 k] w fun e w' => e = .returned (.tuple #[.bool (immB n f k), .int .i64 0]) ∧ Below w.heap.size w w' := by
  have HW := Lib.hid fun w => walsh_Waves n f w hn hf
  have hN : 2 ^ n ≤ 32 := Nat.pow_le_pow_right (n := 2) (by omega) hn
  have HG := Lib.hid fun u (h : u < 2 ^ n) => wavesL_get (f := f) h
  have HS := Lib.hid fun u (h : u < 2 ^ n) (h2 : immOne n f k u = true) => immB_stop h h2
  have HD := Lib.hid fun (h : ∀ u, u < 2 ^ n → immOne n f k u = false) => immB_of h
  obtain ⟨R, hR⟩ : ∃ R, R = immB n f k := ⟨_, rfl⟩
  rw [← hR] at HS HD ⊢
  obtain ⟨N, hNe⟩ : ∃ N, N = 2 ^ n := ⟨_, rfl⟩
  rw [← hNe] at HW hN HG HS HD
  clear hf hR hNe
  go_enter Tryd.func8, Tryd.ntmps8
  go_wp2_with fail
  refine (HW.out _).mono ?_
  rintro e w1 ⟨g, cap, rfl, hb1, hr1⟩
  go_wp2
  simp only [decide_eq_false (show ¬ (k : Int) < 0 by omega), decide_eq_false (show ¬ n < k by omega), Bool.or_self]
  go_loop [31] (fun i => ∃ I : Nat, i = .int .i64 I ∧ I ≤ N ∧ Hid (∀ u, u < I → immOne n f k u = false)) (fun i => N - (intOf i).toNat)
  case atStart => exact ⟨0, rfl, by omega, Lib.hid fun u hu => absurd hu (Nat.not_lt_zero _)⟩
  case round =>
    obtain ⟨I, rfl, hI, HI⟩ := hrel
    by_cases hlt : I < N
    · have kx := own_cell hr1 (i := I) (u := .int .i64 (walN n f I)) (by simp [inV, HG.out I hlt])
      have HOn := Lib.hid (fun W => bits_ones I W (by omega))
      have hp := pop5_le I
      have hwr : IntKind.u64.wrap (I : Int) = (I : Int) := by rw [IntKind.wrap_u64]; omega
      have ho : immOne n f k I = (decide (1 ≤ pop5 I) && decide (pop5 I ≤ k) && walN n f I != 0) := rfl
      obtain ⟨O, hO⟩ : ∃ O, immOne n f k I = O := ⟨_, rfl⟩
      rw [hO] at ho
      have HO := Lib.hid hO
      obtain ⟨q, hq⟩ : ∃ q, pop5 I = q := ⟨_, rfl⟩
      obtain ⟨v, hv⟩ : ∃ v, walN n f I = v := ⟨_, rfl⟩
      rw [hq] at HOn hp ho
      rw [hv] at kx ho
      have hnext : O = false → Hid (∀ u, u < I + 1 → immOne n f k u = false) := fun e => Lib.hid fun u hu => by
        by_cases h : u = I
        · rw [h, HO.out, e]
        · exact HI.out u (by omega)
      clear hO hq hv
      by_cases h1 : 1 ≤ q
      · by_cases h2 : q ≤ k
        · by_cases h3 : v = 0
          · have hn2 := hnext (by rw [ho, h3]; simp)
            have hv0 : (v != 0) = false := by simp [h3]
            clear ho hnext
            go_wp2_with fail
            refine (HOn.out _).mono ?_
            rintro e w' ⟨rfl, rfl⟩
            go_wp2
            go_round
            case rel => exact ⟨I + 1, by go_num, by omega, hn2⟩
            case measure => simp [intOf]; omega
          · have HR : Hid (R = false) := Lib.hid (HS.out I hlt (by rw [HO.out, ho, decide_eq_true h1, decide_eq_true h2]; simpa using h3))
            have hv0 : (v != 0) = true := by simpa using h3
            clear ho hnext
            go_wp2_with fail
            refine (HOn.out _).mono ?_
            rintro e w' ⟨rfl, rfl⟩
            go_wp2
            go_ret2
            exact ⟨by rw [HR.out]; rfl, hb1⟩
        · have hn2 := hnext (by rw [ho, decide_eq_false h2]; simp)
          clear ho hnext
          go_wp2_with fail
          refine (HOn.out _).mono ?_
          rintro e w' ⟨rfl, rfl⟩
          go_wp2
          go_round
          case rel => exact ⟨I + 1, by go_num, by omega, hn2⟩
          case measure => simp [intOf]; omega
      · have hn2 := hnext (by rw [ho, decide_eq_false h1]; simp)
        clear ho hnext
        go_wp2_with fail
        refine (HOn.out _).mono ?_
        rintro e w' ⟨rfl, rfl⟩
        go_wp2
        go_round
        case rel => exact ⟨I + 1, by go_num, by omega, hn2⟩
        case measure => simp [intOf]; omega
    · obtain rfl : I = N := by omega
      have HR : Hid (R = true) := Lib.hid (HD.out HI.out)
      go_wp2
      go_ret2
      exact ⟨by rw [HR.out]; rfl, hb1⟩
end Go.Proofs.YtabhmhojlhagcaaDoor
