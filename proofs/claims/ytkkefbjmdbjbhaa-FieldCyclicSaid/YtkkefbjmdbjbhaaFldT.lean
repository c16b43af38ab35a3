/- The contracts of lockwrightref.digits, FieldSize, product, FieldCheck. -/
import Derived.Test.YtkkefbjmdbjbhaaFldL
namespace Go.Proofs.Ytkkefbjmdbjbhaa
open Go.RowKit
set_option linter.unusedVariables false
set_option linter.unusedSimpArgs false
set_option maxHeartbeats 3200000 in
theorem ref_digits (p a N : Nat) (w : World) (hp : 2 ≤ p) (hp2 : p ≤ 251) (ha : a ≤ 1048576) (hN : (digL p a).length = N) :
    Calls Try.prog 36 #[.int .i64 p, .int .i64 a] w fun e w' => (∃ a' c', e = .returned (.slice a' N c') ∧ RowL w' a' c' (digL p a)) ∧ Below w.heap.size w w' := by
  obtain ⟨i0, hi, hz0, hz1, hz2⟩ := info_parts long_info
  have hu : Try.prog.underlying 22 = some (.slice 2) := by kernel_rfl
  have HN := Lib.hid hN
  have hN21 : N ≤ 21 := by
    rw [← hN]
    refine dig_len hp 21 a (Nat.lt_of_lt_of_le (show a < 2 ^ 21 by omega) (Nat.pow_le_pow_left hp 21))
  clear hN
  go_enter Try.func36, Try.ntmps36
  go_wp2
  go_loopw [1, 5] (fun av v wr => ∃ (r : Nat) (pre : List Int), av = .int .i64 r ∧ r ≤ a ∧ Hid (digL p a = pre ++ digL p r) ∧ pre.length ≤ N ∧ Below w.heap.size w wr ∧ wr.ownsRow w.heap.size 2 1 v pre.length (inV pre)) (fun av _ _ => (intOf av).toNat)
  case atStart => exact ⟨a, [], rfl, Nat.le_refl _, Lib.hid rfl, Nat.zero_le _, Below.refl _ _, World.ownsRow_nil _ _ _ _⟩
  case round =>
    obtain ⟨r, pre, rfl, hr, HP, hpl, hb, ho⟩ := hrel
    have hz := hb.size
    by_cases h0 : 0 < r
    · have HD := Lib.hid (digL_cons hp h0)
      have hpl2 : pre.length + 1 ≤ N := by rw [← HN.out, HP.out, HD.out]; simp
      have m1 : (r : Int).tmod p = ((r % p : Nat) : Int) := by rw [Int.tmod_eq_emod_of_nonneg (by omega)]; norm_cast
      have m2 : (r : Int) % p = ((r % p : Nat) : Int) := by norm_cast
      have m3 : (r : Int).tdiv p = ((r / p : Nat) : Int) := by rw [Int.tdiv_eq_ediv_of_nonneg (by omega)]; norm_cast
      have m4 : (r : Int) / p = ((r / p : Nat) : Int) := by norm_cast
      have hlt : r / p < r := Nat.div_lt_self h0 (by omega)
      have hx := Nat.mod_lt r (show 0 < p by omega)
      obtain ⟨x, hxe⟩ : ∃ x, r % p = x := ⟨_, rfl⟩
      obtain ⟨y, hye⟩ : ∃ x, r / p = x := ⟨_, rfl⟩
      rw [hxe] at m1 m2 hx HD
      rw [hye] at m3 m4 hlt HD
      clear hxe hye
      have z2 : ((p : Int) == 0) = false := by simp; omega
      have z3 : ¬ (p : Int) = 0 := by omega
      have z4 : ¬ p = 0 := by omega
      obtain ⟨Lp, hLp⟩ : ∃ Lp, pre.length = Lp := ⟨_, rfl⟩
      rw [hLp] at ho hpl2 hpl
      have HLP := Lib.hid hLp
      clear hLp
      go_wp2_with (first
        | (at_builtin; refine wpList_append_own _ rfl _ _ 22 rfl w.heap.size 2 i0 (.int .i64 0) 1 8 hu hi hz0 hz1 hz2 rfl (by decide) _ _ _ rfl (ho.alloc _) ⟨wr.heap.size, 0, none⟩ 1 1 [.int .i64 (x : Int)] rfl rfl (cell_newL _ _ _ rfl) (by simp [Value.oneCell']) (by unfold maxLen; omega) (by omega) (by simp; omega) ?_; intro v' w2 hown' hg2 hnil2; have kk2 := ((hb.alloc hz (.cells #[.int .i64 (x : Int)] 2)).grown hg2 (by simp; omega) (fun j hj => (ho.lt j hj).1))))
      go_roundw
      case rel =>
        exact ⟨y, pre ++ [(x : Int)], by go_num, by omega, Lib.hid (by rw [HP.out, HD.out]; simp), by rw [List.length_append, HLP.out]; simp; omega, kk2, by rw [List.length_append, HLP.out]; simpa [inV] using hown'⟩
      case measure => simp [intOf]; omega
    · obtain rfl : r = 0 := by omega
      have HE : Hid (pre = digL p a) := Lib.hid (by rw [HP.out, digL_zero]; simp)
      clear HP
      obtain ⟨a', c', rfl, hrow⟩ := own_rowL ho
      have HR : Hid (RowL wr a' c' (digL p a)) := Lib.hid (by rw [HE.out] at hrow; exact hrow)
      have HL : Hid (pre.length = N) := Lib.hid (by rw [HE.out]; exact HN.out)
      clear hrow ho
      rw [HL.out]
      go_wp2
      go_ret
      exact ⟨⟨a', c', rfl, HR.out⟩, hb⟩
/-- a field's size; 0: too large -/
def szN (p m : Nat) : Nat := if 4096 < p ^ m then 0 else p ^ m
theorem szN_ok {p m : Nat} (h : ¬ 4096 < p ^ m) : szN p m = p ^ m := if_neg h
set_option maxHeartbeats 1600000 in
theorem ref_FieldSize (p m : Nat) (af : Option Addr) (cf Lf : Nat) (w : World) (hp : 2 ≤ p) (hp2 : p ≤ 251) (hL : Lf = m + 1) (hm : m ≤ 100) :
    Calls Try.prog 11 #[.int .i64 p, .slice af Lf cf] w fun e w' => e = .returned (.int .i64 (szN p m)) ∧ w = w' := by
  subst hL
  have HS : Hid (4096 < p ^ m → szN p m = 0) := Lib.hid fun h => if_pos h
  have HS2 : Hid (¬ 4096 < p ^ m → szN p m = p ^ m) := Lib.hid fun h => if_neg h
  have HPF := Lib.hid fun k => pow_far (p := p) (k := k) (n := m) (by omega)
  have H0 : Hid (p ^ 0 = 1) := Lib.hid (Nat.pow_zero _)
  obtain ⟨T, hT⟩ : ∃ T, szN p m = T := ⟨_, rfl⟩
  rw [hT] at HS HS2 ⊢
  clear hT
  go_enter Try.func11, Try.ntmps11
  go_wp2
  go_loop [5, 6] (fun nv kv => ∃ I : Nat, kv = .int .i64 ((I : Int) + 1) ∧ I ≤ m ∧ nv = .int .i64 ((p ^ I : Nat) : Int) ∧ p ^ I ≤ 4096) (fun _ kv => (m + 1 - intOf kv).toNat)
  case atStart => exact ⟨0, rfl, Nat.zero_le _, by rw [H0.out]; rfl, by rw [H0.out]; omega⟩
  case round =>
    obtain ⟨I, rfl, hI, rfl, hb⟩ := hrel
    by_cases hlt : I < m
    · have HPS := Lib.hid (Nat.pow_succ (n := p) (m := I))
      have HPFI := Lib.hid (HPF.out (I + 1))
      obtain ⟨Q0, hQ0⟩ : ∃ Q, p ^ I = Q := ⟨_, rfl⟩
      rw [hQ0] at hb HPS ⊢
      have m1 : ((Q0 : Int) * p) = ((Q0 * p : Nat) : Int) := by norm_cast
      have hQb : Q0 * p ≤ 4096 * 251 := Nat.mul_le_mul hb (by omega)
      obtain ⟨Q, hQ⟩ : ∃ Q, Q0 * p = Q := ⟨_, rfl⟩
      rw [hQ] at m1 hQb HPS
      have m2 : IntKind.i64.wrap ((Q0 : Int) * p) = (Q : Int) := by rw [m1]; exact IntWalk.i64_in _ (by omega)
      clear hQ hQ0
      by_cases hbig : 4096 < Q
      · have HT := Lib.hid (HS.out (HPFI.out (by rw [HPS.out]; exact hbig) hlt))
        go_wp2
        go_ret
        exact ⟨by rw [HT.out]; rfl, rfl⟩
      · go_wp2
        go_round
        case rel => exact ⟨I + 1, by go_num, hlt, by rw [HPS.out], by rw [HPS.out]; omega⟩
        case measure => simp [intOf]; omega
    · obtain rfl : I = m := by omega
      have HT := Lib.hid (HS2.out (by omega))
      go_wp2
      go_ret
      exact ⟨by rw [HT.out]; rfl, rfl⟩
end Go.Proofs.Ytkkefbjmdbjbhaa
