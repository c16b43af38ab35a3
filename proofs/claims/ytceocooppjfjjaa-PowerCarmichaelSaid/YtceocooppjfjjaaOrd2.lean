/- The contract of power.Order. -/
import Derived.Test.YtceocooppjfjjaaOrd
namespace Go.Proofs.Ytceocooppjfjjaa
open Go.RowKit
set_option linter.unusedVariables false
set_option linter.unusedSimpArgs false
theorem power_out_in (a m : Int) (w : World) (c1 : -2147483648 ≤ a) (c2 : a ≤ 2147483648) (h1 : 1 ≤ m) (h2 : m ≤ 1048576) :
    Calls Try.prog 34 #[.int .i64 a, .int .i64 m] w fun e w' => e = .returned (.bool false) ∧ w = w' := by
  go_enter Try.func34, Try.ntmps34
  go_wp2
  go_ret
  exact ⟨ret_bool (by simp; omega), rfl⟩
theorem power_out_out (a m : Int) (w : World) (h : farB a = true ∨ m < 1 ∨ 1048576 < m) :
    Calls Try.prog 34 #[.int .i64 a, .int .i64 m] w fun e w' => e = .returned (.bool true) ∧ w = w' := by
  have hc : a < -2147483648 ∨ (-2147483648 ≤ a ∧ 2147483648 < a) ∨ (-2147483648 ≤ a ∧ a ≤ 2147483648 ∧ (m < 1 ∨ (1 ≤ m ∧ 1048576 < m))) := by
    by_cases e : farB a = true
    · have := farB_true e; omega
    · have := farB_false (by simpa using e : farB a = false)
      rcases h with h | h
      · exact absurd h e
      · omega
  clear h
  rcases hc with c | ⟨c1, c2⟩ | ⟨c1, c2, (c3 | ⟨c3, c4⟩)⟩
  all_goals
    go_enter Try.func34, Try.ntmps34
    go_wp2
    go_ret
    exact ⟨rfl, rfl⟩
theorem two_new (w : World) (x y : Value) (t : TypeId) : (w.alloc (.cells #[x, y] t)).cell? ⟨w.heap.size, 0, none⟩ = some x ∧ (w.alloc (.cells #[x, y] t)).cell? ⟨w.heap.size, 1, none⟩ = some y := by
  have hn := World.alloc_heap_new w (.cells #[x, y] t)
  refine ⟨?_, ?_⟩ <;> simp only [World.cell?] <;> rw [hn] <;> rfl
theorem ord_div {a : Int} {N K k3 : Nat} {P : Int} {p : Nat} {pre : List (Nat × Nat)} (h : M.ORel a N K pre k3) (hP : P = p) (hp : 2 ≤ p) (h1 : (k3 : Int) % P = 0) (h2 : a ^ ((k3 : Int) / P).toNat % N = 1 % N) :
    ∃ k4 : Nat, (k3 : Int) / P = k4 ∧ k4 < k3 ∧ M.ORel a N K pre k4 := by
  have hd : p ∣ k3 := by
    rw [hP] at h1
    exact Int.natCast_dvd_natCast.1 (Int.dvd_of_emod_eq_zero h1)
  have e : (k3 : Int) / P = ((k3 / p : Nat) : Int) := by rw [hP]; exact (Int.natCast_ediv k3 p).symm
  rw [e, Int.toNat_natCast] at h2
  obtain ⟨i1, i2⟩ := h.div hp hd h2
  exact ⟨k3 / p, e, i2, i1⟩
theorem ord_next {a : Int} {N K k3 : Nat} {P : Int} {x : Nat × Nat} {pre : List (Nat × Nat)} (h : M.ORel a N K pre k3) (hP : P = x.1) (hp : 2 ≤ x.1) (h1 : ¬ ((k3 : Int) % P = 0 ∧ a ^ ((k3 : Int) / P).toNat % N = 1 % N)) : M.ORel a N K (pre ++ [x]) k3 := by
  refine h.next fun hh => h1 ⟨?_, ?_⟩
  · rw [hP]; exact Int.emod_eq_zero_of_dvd (Int.natCast_dvd_natCast.2 hh.1)
  · have e : (k3 : Int) / P = ((k3 / x.1 : Nat) : Int) := by rw [hP]; exact (Int.natCast_ediv k3 x.1).symm
    rw [e, Int.toNat_natCast]; exact hh.2
def OrdPost (a m : Int) (w : World) (e : Ending) (w' : World) : Prop := ∃ k : Nat, e = .returned (.tuple #[.int .i64 k, .int .i64 0]) ∧ M.IsOrd a m k ∧ k ≤ 1048576 ∧ Below w.heap.size w w'
set_option maxHeartbeats 1600000 in
theorem power_Order (a m : Int) (w : World) (ha : farB a = false) (h1 : 1 ≤ m) (h2 : m ≤ 1048576) (hg : Int.gcd a m = 1) :
    Calls Try.prog 15 #[.int .i64 a, .int .i64 m] w (OrdPost a m w) := by
  obtain ⟨c1, c2⟩ := farB_false ha
  have HG := Lib.hid hg
  clear ha hg
  go_enter Try.func15, Try.ntmps15
  go_wp2_with fail
  refine (power_out_in a m _ c1 c2 h1 h2).mono ?_
  rintro e w' ⟨rfl, rfl⟩
  go_wp2_with fail
  refine (euclid_Gcd _ _ _ c1 c2 (by omega) (by omega)).mono ?_
  rintro e w1 ⟨rfl, hb1⟩
  rw [HG.out]
  go_wp2_with fail
  obtain ⟨N, rfl⟩ := Int.eq_ofNat_of_zero_le (show 0 ≤ m by omega)
  refine (power_lambda N _ (by omega) (by omega)).mono ?_
  rintro e w2 ⟨rfl, hb2⟩
  obtain ⟨q1, q2⟩ := M.lam_prefix (show 0 < N by omega) (List.prefix_refl (M.fac N))
  have HO : Hid (M.One a N (M.lam N)) := M.one_lam (by omega) HG.out
  obtain ⟨K, hK⟩ : ∃ K, K = M.lam N := ⟨_, rfl⟩
  rw [show M.lamf 1 (M.fac N) = M.lam N from rfl, ← hK] at q1 q2
  rw [← hK]
  have HO' : Hid (M.One a N K) := by show M.One a N K; rw [hK]; exact HO.out
  clear hK HO
  go_wp2_with fail
  refine (primes_Factor_nat K _ q1 (by omega)).mono ?_
  rintro e w3 ⟨v, rfl, hb3, hr⟩
  have z1 := hb1.size
  have z2 := hb2.size
  have z3 := hb3.size
  rcases rowP_shape hr with ⟨rfl, hl⟩ | ⟨g, cap, rfl, hg1, hg2, hcap, hc⟩
  · have HL := Lib.hid hl
    clear hr hl
    go_wp2
    go_loopw [8, 33] (fun k i wr => k = .int .i64 K ∧ i = .int .i64 0 ∧ w3 = wr) (fun _ _ _ => 0)
    case atStart => exact ⟨rfl, rfl, rfl⟩
    case round =>
      obtain ⟨rfl, rfl, rfl⟩ := hrel
      go_wp2
      go_ret2
      refine ⟨K, rfl, ?_, by omega, below_two hb1 (below_two hb2 hb3)⟩
      refine M.ORel.fin (K := K) (by omega) ⟨by omega, Nat.dvd_refl K, HO'.out, fun q hq => ?_⟩
      rw [HL.out] at hq; simp at hq
  · have HC := Lib.hid hc
    have hlen : (M.fac K).length ≤ 1048576 := by have := fac_len (M.fac_spec q1); omega
    obtain ⟨L, hL⟩ : ∃ L, L = (M.fac K).length := ⟨_, rfl⟩
    rw [← hL] at hlen hcap
    rw [← hL]
    have HLn := Lib.hid hL
    clear hr hL hc
    go_wp2
    go_loopw [8, 33] (fun k i wr => ∃ (I k' : Nat), i = .int .i64 I ∧ k = .int .i64 k' ∧ I ≤ L ∧ Below w3.heap.size w3 wr ∧ Hid (M.ORel a N K ((M.fac K).take I) k')) (fun _ i _ => L - (intOf i).toNat)
    case atStart => exact ⟨0, K, rfl, rfl, by omega, Below.refl _ _, ⟨by omega, Nat.dvd_refl K, HO'.out, fun q hq => by simp at hq⟩⟩
    case round =>
      obtain ⟨I, k', rfl, rfl, hi, hb, hR⟩ := hrel
      have k0 : 1 ≤ k' ∧ k' ≤ 1048576 := by have h5 := hR.out; have := Nat.le_of_dvd (by omega) h5.2.1; have := h5.1; omega
      by_cases hlt : I < L
      · obtain ⟨x, hx⟩ : ∃ x, (M.fac K)[I]? = some x := ⟨_, List.getElem?_eq_getElem (by rw [← HLn.out]; exact hlt)⟩
        obtain ⟨e1, e2⟩ := HC.out I x hx
        have k1 := (hb.cell (p := ⟨g, I * 2, none⟩) hg2).trans e1
        have k2 := (hb.cell (p := ⟨g, I * 2 + 1, none⟩) hg2).trans e2
        obtain ⟨p1, p2, p3, p4⟩ := lam_round q1 hx
        have HX := Lib.hid hx
        clear e1 e2 hx p4
        obtain ⟨P, hP⟩ : ∃ P : Int, P = x.1 := ⟨_, rfl⟩
        have PP : 2 ≤ P ∧ P ≤ 1048576 := by rw [hP]; omega
        rw [← hP] at k1
        have HP := Lib.hid hP
        clear hP
        go_wp2
        go_loopw [8] (fun k w4 => ∃ k2 : Nat, k = .int .i64 k2 ∧ w4.cell? ⟨wr.heap.size, 0, none⟩ = some (.int .i64 P) ∧ Below w3.heap.size w3 w4 ∧ Hid (M.ORel a N K ((M.fac K).take I) k2)) (fun k _ => (intOf k).toNat)
        case atStart => exact ⟨k', rfl, (two_new wr _ _ _).1, hb.alloc hb.size _, hR⟩
        case round =>
          obtain ⟨k3, rfl, d0, hb4, hR4⟩ := hrel
          have k00 : 1 ≤ k3 ∧ k3 ≤ 1048576 := by have h5 := hR4.out; have := Nat.le_of_dvd (by omega) h5.2.1; have := h5.1; omega
          obtain ⟨Y, hY⟩ : ∃ Y : Int, Y = a ^ ((k3 : Int) / P).toNat % (N : Int) := ⟨_, rfl⟩
          have q0 : 0 ≤ (k3 : Int) / P := Int.ediv_nonneg (by omega) (by omega)
          have q3 : (k3 : Int) / P ≤ k3 := Int.ediv_le_self _ (by omega)
          have o1 : (1 : Int).tmod N = 1 % (N : Int) := Int.tmod_eq_emod_of_nonneg (by omega)
          have t1 : (k3 : Int).tmod P = (k3 : Int) % P := Int.tmod_eq_emod_of_nonneg (by omega)
          have t3 : IntKind.i64.wrap ((k3 : Int) / P) = (k3 : Int) / P := IntWalk.i64_in _ (by omega)
          have t2 : (k3 : Int).tdiv P = (k3 : Int) / P := Int.tdiv_eq_ediv_of_nonneg (by omega)
          have z2 : ¬ P = 0 := by omega
          have z3 : ¬ (N : Int) = 0 := by omega
          have z0 : (P == 0) = false := by simp; omega
          have z1 : ((N : Int) == 0) = false := by simp; omega
          by_cases hd : (k3 : Int) % P = 0
          · have hd' : ((k3 : Int) % P == 0) = true := by simp [hd]
            by_cases hy : Y = 1 % (N : Int)
            · obtain ⟨k4, e4, l4, r4⟩ := ord_div hR4.out HP.out p1 hd (by rw [← hY]; exact hy)
              have HY := Lib.hid hY
              have hy' : (a ^ ((k3 : Int) / P).toNat % (N : Int) == 1 % (N : Int)) = true := by rw [← hY]; simp [hy]
              have HR5 := Lib.hid r4
              have HE := Lib.hid e4
              clear hY hy hd r4 e4
              go_wp2
              go_quiet ((go_at_call 40; exact quiet_same (power_Of _ _ _ _ (by omega) (by omega) (by omega) (by omega))))
              go_wp2
              go_roundw
              case rel => exact ⟨k4, by rw [HE.out], d0, below_drewN hb4 _, HR5⟩
              case measure =>
                have h9 := HE.out
                simp [intOf]; omega
            · have hy' : (a ^ ((k3 : Int) / P).toNat % (N : Int) == 1 % (N : Int)) = false := by rw [← hY]; simp [hy]
              have HR5 : Hid (M.ORel a N K ((M.fac K).take (I + 1)) k3) := by
                show M.ORel _ _ _ _ _
                rw [List.take_add_one, HX.out]
                exact ord_next hR4.out HP.out p1 fun hh => hy (hY.trans hh.2)
              clear hY hy hd
              go_wp2
              go_quiet ((go_at_call 40; exact quiet_same (power_Of _ _ _ _ (by omega) (by omega) (by omega) (by omega))))
              go_wp2
              go_roundw
              case rel => exact ⟨I + 1, k3, by go_num, rfl, by omega, below_drewN hb4 _, HR5⟩
              case measure => simp [intOf]; omega
          · have hd' : ((k3 : Int) % P == 0) = false := by simp [hd]
            have HR5 : Hid (M.ORel a N K ((M.fac K).take (I + 1)) k3) := by
              show M.ORel _ _ _ _ _
              rw [List.take_add_one, HX.out]
              exact ord_next hR4.out HP.out p1 fun hh => hd hh.1
            clear hY hd
            go_wp2
            go_quiet ((go_at_call 40; exact quiet_same (power_Of _ _ _ _ (by omega) (by omega) (by omega) (by omega))))
            go_wp2
            go_roundw
            case rel => exact ⟨I + 1, k3, by go_num, rfl, by omega, below_drewN hb4 _, HR5⟩
            case measure => simp [intOf]; omega
      · obtain rfl : I = L := by omega
        go_wp2
        go_ret2
        refine ⟨k', rfl, ?_, by omega, below_two hb1 (below_two hb2 (below_two hb3 hb))⟩
        have h6 := hR.out
        rw [HLn.out, List.take_length] at h6
        exact M.ORel.fin (K := K) (by omega) h6
theorem power_Order_none (a m : Int) (w : World) (ha : farB a = false) (h1 : 1 ≤ m) (h2 : m ≤ 1048576) (hg : Int.gcd a m ≠ 1) :
    Calls Try.prog 15 #[.int .i64 a, .int .i64 m] w fun e w' => e = .returned (.tuple #[.int .i64 0, .int .i64 5]) ∧ Below w.heap.size w w' := by
  obtain ⟨c1, c2⟩ := farB_false ha
  obtain ⟨g, hG⟩ : ∃ g, g = Int.gcd a m := ⟨_, rfl⟩
  rw [← hG] at hg
  have HG := Lib.hid hG
  have q2 : ((g : Int) == 1) = false := by simp; omega
  have q3 : ((g : Int) != 1) = true := by simp; omega
  have q4 : ¬ (g : Int) = 1 := by omega
  clear ha hG
  go_enter Try.func15, Try.ntmps15
  go_wp2_with fail
  refine (power_out_in a m _ c1 c2 h1 h2).mono ?_
  rintro e w' ⟨rfl, rfl⟩
  go_wp2_with fail
  refine (euclid_Gcd _ _ _ c1 c2 (by omega) (by omega)).mono ?_
  rintro e w1 ⟨rfl, hb1⟩
  rw [← HG.out]
  go_wp2
  go_ret2
  exact ⟨rfl, hb1⟩
theorem power_Order_out (a m : Int) (w : World) (h : farB a = true ∨ m < 1 ∨ 1048576 < m) :
    Calls Try.prog 15 #[.int .i64 a, .int .i64 m] w fun e w' => e = .returned (.tuple #[.int .i64 0, .int .i64 2]) ∧ w = w' := by
  have H := Lib.hid h
  clear h
  go_enter Try.func15, Try.ntmps15
  go_wp2_with fail
  refine (power_out_out a m _ H.out).mono ?_
  rintro e w' ⟨rfl, rfl⟩
  go_wp2
  go_ret2
  exact ⟨rfl, rfl⟩
end Go.Proofs.Ytceocooppjfjjaa
