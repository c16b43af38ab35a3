/- The contracts of power.lambda and power.Order. -/
import Derived.Test.YtceocooppjfjjaaRowP
import Derived.Test.YtceocooppjfjjaaOrdM
import Derived.Test.YtceocooppjfjjaaPow
namespace Go.Proofs.Ytceocooppjfjjaa
open Go.RowKit
set_option linter.unusedVariables false
set_option linter.unusedSimpArgs false
theorem lam_round {N : Nat} (h1 : 1 ≤ N) {x : Nat × Nat} {I : Nat} (h : (M.fac N)[I]? = some x) : 2 ≤ x.1 ∧ x.1 ≤ N ∧ (1 ≤ x.2 ∧ x.2 ≤ N) ∧ ∀ j, j < x.2 → (x.1 - 1) * x.1 ^ j ≤ N := by
  have hx : x ∈ M.fac N := List.mem_of_getElem? h
  obtain ⟨k1, k2, k3, k4⟩ := (M.fac_spec h1).dvd x hx
  have h2 := Nat.le_of_dvd h1 k4
  have h3 : ∀ j, j < x.2 → x.1 * x.1 ^ j ≤ N := fun j hj => by
    refine Nat.le_trans ?_ h2
    rw [← Nat.pow_succ']
    exact Nat.pow_le_pow_right (by omega) hj
  refine ⟨k3, ?_, ⟨k2, ?_⟩, fun j hj => Nat.le_trans (Nat.mul_le_mul_right _ (Nat.sub_le _ _)) (h3 j hj)⟩
  · have := h3 0 (by omega); simpa using this
  · have := Nat.lt_pow_self (n := x.2) (show 1 < x.1 by omega)
    omega
theorem pow_int {P X : Int} {p j : Nat} (hP : P = p) (h2 : 2 ≤ p) (hX : X = (P - 1) * P ^ j) : X = ((p - 1) * p ^ j : Nat) ∧ 1 ≤ (p - 1) * p ^ j := by
  refine ⟨?_, Nat.mul_pos (by omega) (Nat.pow_pos (by omega))⟩
  rw [hX, hP, Int.natCast_mul, Int.natCast_pow]
  congr 1
  omega
theorem lam_next {l : Int} {N I : Nat} {x : Nat × Nat} (hx : (M.fac N)[I]? = some x) (hl : l = M.lamf 1 ((M.fac N).take I)) :
    Value.int .i64 (Int.lcm l (M.xq x : Nat)) = .int .i64 (M.lamf 1 ((M.fac N).take (I + 1))) := by
  rw [List.take_add_one, hx, hl]
  show _ = Value.int .i64 (M.lamf 1 (List.take I (M.fac N) ++ [x]))
  rw [M.lamf_snoc]
  rfl
theorem below_three {w1 wr w3 : World} {o : Obj} (hb : Below w1.heap.size w1 wr) (h : Below (wr.alloc o).heap.size (wr.alloc o) w3) : Below w1.heap.size w1 w3 :=
  (hb.alloc hb.size o).trans (h.mono (by have := hb.size; simp; omega))
set_option maxHeartbeats 1600000 in
theorem power_lambda (N : Nat) (w : World) (h1 : 1 ≤ N) (h2 : N ≤ 1048576) :
    Calls Try.prog 35 #[.int .i64 N] w fun e w' => e = .returned (.int .i64 (M.lam N)) ∧ Below w.heap.size w w' := by
  go_enter Try.func35, Try.ntmps35
  go_wp2_with fail
  refine (primes_Factor_nat N _ h1 h2).mono ?_
  rintro e w1 ⟨v, rfl, hb1, hr⟩
  have hz := hb1.size
  rcases rowP_shape hr with ⟨rfl, hl⟩ | ⟨g, cap, rfl, hg1, hg2, hcap, hc⟩
  · have HL : Hid (M.lam N = 1) := by show M.lam N = 1; unfold M.lam; rw [hl]; rfl
    clear hr hl
    go_wp2
    go_loopw [3, 17] (fun l i wr => l = .int .i64 1 ∧ i = .int .i64 0 ∧ w1 = wr) (fun _ _ _ => 0)
    case atStart => exact ⟨rfl, rfl, rfl⟩
    case round =>
      obtain ⟨rfl, rfl, rfl⟩ := hrel
      go_wp2
      go_ret
      exact ⟨ret_int (by rw [HL.out]; rfl), hb1⟩
  · have HC := Lib.hid hc
    have hlen : (M.fac N).length ≤ 1048576 := by have := fac_len (M.fac_spec h1); omega
    obtain ⟨L, hL⟩ : ∃ L, L = (M.fac N).length := ⟨_, rfl⟩
    rw [← hL] at hlen hcap
    rw [← hL]
    have HLn := Lib.hid hL
    clear hr hL hc
    go_wp2
    go_loopw [3, 17] (fun l i wr => ∃ I : Nat, i = .int .i64 I ∧ l = .int .i64 (M.lamf 1 ((M.fac N).take I)) ∧ I ≤ L ∧ Below w1.heap.size w1 wr) (fun _ i _ => L - (intOf i).toNat)
    case atStart => exact ⟨0, rfl, rfl, by omega, Below.refl _ _⟩
    case round =>
      obtain ⟨I, rfl, rfl, hi, hb⟩ := hrel
      by_cases hlt : I < L
      · obtain ⟨x, hx⟩ : ∃ x, (M.fac N)[I]? = some x := ⟨_, List.getElem?_eq_getElem (by rw [← HLn.out]; exact hlt)⟩
        obtain ⟨e1, e2⟩ := HC.out I x hx
        have k1 := (hb.cell (p := ⟨g, I * 2, none⟩) hg2).trans e1
        have k2 := (hb.cell (p := ⟨g, I * 2 + 1, none⟩) hg2).trans e2
        obtain ⟨P, hP⟩ : ∃ P : Int, P = x.1 := ⟨_, rfl⟩
        obtain ⟨K, hK⟩ : ∃ P : Int, P = x.2 := ⟨_, rfl⟩
        rw [← hP] at k1
        rw [← hK] at k2
        have HX := Lib.hid hx
        have HP := Lib.hid hP
        have HK := Lib.hid hK
        obtain ⟨l, hl⟩ : ∃ l : Int, l = M.lamf 1 ((M.fac N).take I) := ⟨_, rfl⟩
        rw [← hl]
        have Hl := Lib.hid hl
        obtain ⟨p1, p2, p3, p4⟩ := lam_round h1 hx
        have HB := Lib.hid p4
        clear e1 e2 hx hP hK hl p4
        have PP : 2 ≤ P ∧ P ≤ 1048576 := by rw [HP.out]; omega
        have KK : 1 ≤ K ∧ K ≤ 1048576 := by rw [HK.out]; omega
        go_wp2
        go_loop [8, 9] (fun x k => ∃ (X : Int) (j : Nat), x = .int .i64 X ∧ k = .int .i64 (j + 1) ∧ (j : Int) < K ∧ Hid (X = (P - 1) * P ^ j)) (fun _ k => (K - intOf k).toNat)
        case atStart => exact ⟨P - 1, 0, by go_num, rfl, by omega, by show P - 1 = (P - 1) * P ^ 0; simp⟩
        case round =>
          obtain ⟨X, j, rfl, rfl, hj, HXj⟩ := hrel
          have hX := pow_int HP.out p1 HXj.out
          have hb3 := HB.out j (by have := HK.out; omega)
          have X0 : 1 ≤ X ∧ X ≤ 1048576 := by rw [hX.1]; have := hX.2; omega
          have HXn := Lib.hid hX.1
          clear hX hb3
          by_cases hjk : (j : Int) + 1 < K
          · have hb4 := HB.out (j + 1) (by have := HK.out; omega)
            have hs := pow_int (X := X * P) (j := j + 1) HP.out p1 (by rw [HXj.out, Int.pow_succ, Int.mul_assoc])
            have X1 : 0 ≤ X * P ∧ X * P ≤ 1048576 := by rw [hs.1]; omega
            have HS : Hid (X * P = (P - 1) * P ^ (j + 1)) := by show X * P = _; rw [HXj.out, Int.pow_succ, Int.mul_assoc]
            clear hb4 hs
            go_wp2
            go_round
            case rel => exact ⟨X * P, j + 1, by go_num, by go_num, by omega, HS.out⟩
            case measure => simp [intOf]; omega
          · have hjK : x.2 = j + 1 := by have := HK.out; omega
            have Hj := Lib.hid hjK
            obtain ⟨q1, q2⟩ := M.lam_prefix h1 (List.take_prefix I (M.fac N))
            have l1 : 1 ≤ l ∧ l ≤ 1048576 := by rw [Hl.out]; omega
            clear q1 q2 hjK
            by_cases hc : P = 2 ∧ 2 < K
            · obtain ⟨c1, c2⟩ := hc
              have c1' : (P == 2) = true := by simp [c1]
              have HQ : Hid (X / 2 = (M.xq x : Nat)) := by
                show X / 2 = _
                have e1 := HP.out
                have e2 := HK.out
                unfold M.xq
                rw [if_pos ⟨by omega, by omega⟩, HXn.out, Hj.out, Nat.add_sub_cancel]
                omega
              clear c1
              go_wp2_with fail
              refine (euclid_Lcm _ _ _ (by omega) (by omega) (by omega) (by omega)).mono ?_
              rintro e w3 ⟨rfl, hb4⟩
              go_wp2
              go_roundw
              case rel => exact ⟨I + 1, by go_num, by rw [HQ.out]; exact lam_next HX.out Hl.out, by omega, below_three hb hb4⟩
              case measure => simp [intOf]; omega
            · have HQ : Hid (X = (M.xq x : Nat)) := by
                show X = _
                have e1 := HP.out
                have e2 := HK.out
                unfold M.xq
                rw [if_neg (by omega), HXn.out, Hj.out, Nat.add_sub_cancel]
              by_cases hp2 : P = 2
              · have c1' : (P == 2) = true := by simp [hp2]
                have c2 : K ≤ 2 := by omega
                clear hc hp2
                go_wp2_with fail
                refine (euclid_Lcm _ _ _ (by omega) (by omega) (by omega) (by omega)).mono ?_
                rintro e w3 ⟨rfl, hb4⟩
                go_wp2
                go_roundw
                case rel => exact ⟨I + 1, by go_num, by rw [HQ.out]; exact lam_next HX.out Hl.out, by omega, below_three hb hb4⟩
                case measure => simp [intOf]; omega
              · have c1' : (P == 2) = false := by simp [hp2]
                clear hc hp2
                go_wp2_with fail
                refine (euclid_Lcm _ _ _ (by omega) (by omega) (by omega) (by omega)).mono ?_
                rintro e w3 ⟨rfl, hb4⟩
                go_wp2
                go_roundw
                case rel => exact ⟨I + 1, by go_num, by rw [HQ.out]; exact lam_next HX.out Hl.out, by omega, below_three hb hb4⟩
                case measure => simp [intOf]; omega
      · obtain rfl : I = L := by omega
        have HT : Hid ((M.fac N).take I = M.fac N) := by show List.take _ _ = _; rw [HLn.out]; exact List.take_length
        rw [HT.out]
        go_wp2
        go_ret
        exact ⟨rfl, below_two hb1 hb⟩
end Go.Proofs.Ytceocooppjfjjaa
