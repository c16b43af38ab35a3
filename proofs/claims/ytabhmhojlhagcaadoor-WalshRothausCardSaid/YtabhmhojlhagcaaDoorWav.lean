/- The contracts of walsh.out, Waves, anf. -/
import Derived.Test.YtabhmhojlhagcaaDoorWalM
namespace Go.Proofs.YtabhmhojlhagcaaDoor
open Go.RowKit
set_option linter.unusedVariables false
set_option linter.unusedSimpArgs false
/-- may a function be -/
def funB (n : Int) (f : Nat) : Bool := decide (0 ≤ n) && decide (n ≤ 5) && decide (f < 2 ^ 2 ^ n.toNat)
theorem funB_yes {n : Int} {f : Nat} : funB n f = true ↔ 0 ≤ n ∧ n ≤ 5 ∧ f < 2 ^ 2 ^ n.toNat := by simp [funB]; omega
theorem small_n {n : Int} (h1 : 0 ≤ n) (h2 : n ≤ 5) : n = 0 ∨ n = 1 ∨ n = 2 ∨ n = 3 ∨ n = 4 ∨ n = 5 := by omega
theorem div_zero {f N : Nat} (h : f < N) : (f : Int) / (N : Int) = 0 := by rw [← Int.natCast_ediv, Nat.div_eq_of_lt h]; rfl
set_option maxRecDepth 20000 in
set_option maxHeartbeats 1600000 in
theorem walsh_out (n : Int) (f : Nat) (w : World) (hf : f < 4294967296) :
    Calls Tryd.prog 9 #[.int .i64 n, .int .u32 f] w fun e w' => e = .returned (.bool (!funB n f)) ∧ w = w' := by
  by_cases h0 : n < 0
  · have e : funB n f = false := by
      cases h : funB n f with
      | false => rfl
      | true => have := funB_yes.1 h; omega
    rw [e]
    clear e
    go_enter Tryd.func9, Tryd.ntmps9
    go_wp2
    go_ret
    exact ⟨ret_bool (by simp), rfl⟩
  · by_cases h5 : 5 < n
    · have e : funB n f = false := by
        cases h : funB n f with
        | false => rfl
        | true => have := funB_yes.1 h; omega
      rw [e]
      clear e
      go_enter Tryd.func9, Tryd.ntmps9
      go_wp2
      go_ret
      exact ⟨ret_bool (by simp), rfl⟩
    · rcases small_n (by omega) (by omega : n ≤ 5) with rfl | rfl | rfl | rfl | rfl | rfl
      all_goals
        go_enter Tryd.func9, Tryd.ntmps9
        go_wp2
        go_ret
        refine ⟨ret_bool ?_, rfl⟩
        rw [Bool.eq_iff_iff]
        simp [funB]
        omega
/-- a list that is filled as far as X -/
def fillTo (s : Nat → Int) (N X : Nat) : List Int := (List.range N).map fun i => if i < X then s i else 0
theorem fillTo_len (s : Nat → Int) (N X : Nat) : (fillTo s N X).length = N := by simp [fillTo]
theorem fillTo_zero (s : Nat → Int) (N : Nat) : fillTo s N 0 = List.replicate N 0 := by
  rw [List.eq_replicate_iff]
  exact ⟨fillTo_len s N 0, fun b hb => by simp [fillTo] at hb; exact hb.2.symm⟩
theorem fillTo_all (s : Nat → Int) (N : Nat) : fillTo s N N = (List.range N).map s := by
  unfold fillTo
  apply List.map_congr_left
  intro i hi
  rw [if_pos (List.mem_range.1 hi)]
theorem fillTo_set (s : Nat → Int) {N X : Nat} (h : X < N) : (fillTo s N X).set X (s X) = fillTo s N (X + 1) := by
  apply List.ext_getElem?
  intro i
  by_cases e : i = X
  · subst e
    rw [List.getElem?_set_self (by rw [fillTo_len]; exact h)]
    simp [fillTo, h]
  · rw [List.getElem?_set_ne (fun e2 => e e2.symm)]
    unfold fillTo
    simp only [List.getElem?_map]
    by_cases hi : i < N
    · rw [List.getElem?_range hi]
      simp only [Option.map_some]
      by_cases h1 : i < X
      · rw [if_pos h1, if_pos (by omega)]
      · rw [if_neg h1, if_neg (by omega)]
    · rw [List.getElem?_eq_none (by simp; omega)]; rfl
theorem fillTo_get (s : Nat → Int) {N X i : Nat} (h : i < N) (h2 : X ≤ i) : (fillTo s N X)[i]? = some 0 := by
  unfold fillTo
  rw [List.getElem?_map, List.getElem?_range h]
  simp only [Option.map_some]
  rw [if_neg (by omega)]
theorem int_info : (Tryd.prog.info? 3).map (fun i => (i.zero, i.size, i.bytes)) = some (some (.int .i64 0), 1, 8) := by kernel_rfl
theorem pow2_n {n : Nat} (hn : n ≤ 5) : wrap64 ((2 : Int) ^ n) = ((2 ^ n : Nat) : Int) := by
  have h1 : ((2 : Int) ^ n) = ((2 ^ n : Nat) : Int) := by rw [Int.natCast_pow]; rfl
  have h2 : 2 ^ n ≤ 32 := Nat.pow_le_pow_right (n := 2) (by omega) hn
  rw [h1]
  generalize 2 ^ n = P at h2 ⊢
  unfold wrap64; omega
theorem waves_c (w : World) (a b : Int) (h1 : -1073741824 ≤ a) (h2 : a ≤ 1073741824) (h3 : -1073741824 ≤ b) (h4 : b ≤ 1073741824) :
    Calls Tryd.prog 11 #[.int .i64 a, .int .i64 b] w fun e w' => e = .returned (.tuple #[.int .i64 (a + b), .int .i64 (a - b)]) ∧ w = w' := by
  go_enter Tryd.func11, Tryd.ntmps11
  go_wp2
  go_ret2
  exact ⟨rfl, rfl⟩
theorem bit_val {f : Nat} (X : Nat) (hf : f < 4294967296) : wrap64 (bits .and .u32 ((f : Int) / 2 ^ X) 1) = ((f / 2 ^ X % 2 : Nat) : Int) := by
  have e1 : (f : Int) / 2 ^ X = ((f / 2 ^ X : Nat) : Int) := by rw [Int.natCast_ediv, Int.natCast_pow]; rfl
  have hlt : f / 2 ^ X < 4294967296 := Nat.lt_of_le_of_lt (Nat.div_le_self _ _) hf
  have e2 := u32_and_nat (f / 2 ^ X) 1 hlt (by omega)
  rw [e1]
  generalize f / 2 ^ X = g at *
  rw [show ((1 : Nat) : Int) = 1 from rfl] at e2
  rw [e2, Nat.and_one_is_mod]
  unfold wrap64
  omega
theorem sgn_val {f : Nat} (X : Nat) (hf : f < 4294967296) : wrap64 (1 - wrap64 (2 * wrap64 (bits .and .u32 ((f : Int) / 2 ^ X) 1))) = sgn f X := by
  rw [bit_val X hf]
  unfold sgn
  generalize f / 2 ^ X = g at *
  unfold wrap64
  omega
set_option maxRecDepth 100000 in
set_option maxHeartbeats 3200000 in
theorem walsh_Waves (n f : Nat) (w : World) (hn : n ≤ 5) (hf : f < 2 ^ 2 ^ n) :
    Calls Tryd.prog 5 #[.int .i64 n, .int .u32 f] w fun e w' => ∃ g cap, e = .returned (.tuple #[.slice (some ⟨g, 0, none⟩) (2 ^ n) cap, .int .i64 0]) ∧ Below w.heap.size w w' ∧ w'.ownsRow w.heap.size 3 1 (.slice (some ⟨g, 0, none⟩) (2 ^ n) cap) (2 ^ n) (inV (wavesL n f)) := by
  have hN : 2 ^ n ≤ 32 := Nat.pow_le_pow_right (n := 2) (by omega) hn
  have hf2 : f < 4294967296 := Nat.lt_of_lt_of_le hf (Nat.le_trans (Nat.pow_le_pow_right (n := 2) (by omega) hN) (by omega))
  have HO := Lib.hid fun w => walsh_out n f w hf2
  rw [show funB (n : Int) f = true from funB_yes.2 ⟨by omega, by omega, by simpa using hf⟩] at HO
  have hsz := pow2_n hn
  obtain ⟨N, hNe⟩ : ∃ N, N = 2 ^ n := ⟨_, rfl⟩
  rw [← hNe] at hN hsz ⊢
  have HN := Lib.hid hNe
  clear hNe hf
  obtain ⟨i0, hi, hz0, hz1, hz2⟩ := info_parts int_info
  have hu : Tryd.prog.underlying 23 = some (.slice 3) := by kernel_rfl
  go_enter Tryd.func5, Tryd.ntmps5
  go_wp2_with fail
  refine (HO.out _).mono ?_
  rintro e w' ⟨rfl, rfl⟩
  go_wp2_with (first
    | (at_make; refine wpList_make_full _ rfl _ _ 23 rfl w.heap.size 3 i0 (.int .i64 0) 1 hu hi hz0 hz1 .i64 .i64 (wrap64 (2 ^ n)) (wrap64 (2 ^ n)) N rfl rfl hsz hsz (by rw [hz2]; omega) (by unfold maxLen; omega) (Nat.le_refl _) ?_
       intro w1 hown1 hg1))
  rw [Nat.mul_one, show (Value.int IntKind.i64 0).cells = #[Value.int .i64 0] from rfl, made_one, show List.replicate N (Value.int .i64 0) = inV (fillTo (sgn f) N 0) by rw [fillTo_zero]; simp [inV]] at hown1
  have hb1 : Below w.heap.size w w1 := (Below.refl _ _).grown hg1 (Nat.le_refl _) (fun j hj => by cases hj)
  clear hg1
  go_loopw [16] (fun x wr => ∃ X : Nat, x = .int .i64 X ∧ X ≤ N ∧ Below w.heap.size w wr ∧ wr.ownsRow w.heap.size 3 1 (.slice (some ⟨w.heap.size, 0, none⟩) N N) N (inV (fillTo (sgn f) N X))) (fun x _ => N - (intOf x).toNat)
  case atStart => exact ⟨0, rfl, by omega, hb1, hown1⟩
  case round =>
    obtain ⟨X, rfl, hX, hb, hr⟩ := hrel
    by_cases hlt : X < N
    · have kx := own_cell hr (i := X) (u := .int .i64 0) (by simp [inV, fillTo_get (sgn f) hlt (Nat.le_refl X)])
      have fx := own_frozen hr X
      have hr2 := own_set hr hlt (.int .i64 (sgn f X))
      rw [← inV_set, fillTo_set _ hlt] at hr2
      have hv := sgn_val X hf2
      obtain ⟨v, hve⟩ : ∃ v, sgn f X = v := ⟨_, rfl⟩
      rw [hve] at hv hr2
      clear hr hve
      go_wp2
      go_round
      case rel => exact ⟨X + 1, by go_num, by omega, hb.setCell (p := ⟨w.heap.size, X, none⟩) (Nat.le_refl _) _, hr2⟩
      case measure => simp [intOf]; omega
    · obtain rfl : X = N := by omega
      rw [fillTo_all] at hr
      go_wp2_with fail
      refine (walsh_fly (fun a b => a + b) (fun a b => a - b) 11 (enters_of Tryd.func11 (by kernel_rfl) rfl) n X w.heap.size X w.heap.size _ _ hn HN.out (by simp) waves_c (by rw [HN.out]; exact fly_bound hn f) hr).mono ?_
      rintro e w2 ⟨⟨v, rfl⟩, hb2, hz2', hr2⟩
      go_wp2
      go_ret2
      refine ⟨_, _, rfl, hb.trans hb2, ?_⟩
      have h := hr2
      have e := fly_waves hn f
      rw [← HN.out] at e
      rw [e] at h
      exact h
end Go.Proofs.YtabhmhojlhagcaaDoor
