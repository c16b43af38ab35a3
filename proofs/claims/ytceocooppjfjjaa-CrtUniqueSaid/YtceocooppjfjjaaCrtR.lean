/- The contracts of lockwrightref.Lcm, RestsCheck, lockwrightkeep.fits. -/
import Derived.Test.YtceocooppjfjjaaCrtW
import Derived.Test.YtceocooppjfjjaaRefGcd
namespace Go.Proofs.Ytceocooppjfjjaa
open Go.RowKit
set_option linter.unusedVariables false
set_option linter.unusedSimpArgs false
theorem ref_Abs_pos (x : Int) (w : World) (h1 : 0 ≤ x) (h2 : x ≤ 4611686018427387904) :
    Calls Try.prog 55 #[.int .i64 x] w fun e w' => e = .returned (.int .i64 x) ∧ w = w' :=
  (ref_Abs x w (by omega) h2).mono fun e w' ⟨a, b⟩ => ⟨by rw [a, Int.natAbs_of_nonneg h1], b⟩
set_option maxRecDepth 20000 in
set_option maxHeartbeats 1600000 in
theorem ref_Lcm (a b : Int) (w : World) (a1 : 1 ≤ a) (a2 : a ≤ 2147483648) (b1 : 1 ≤ b) (b2 : b ≤ 2147483648) :
    Calls Try.prog 54 #[.int .i64 a, .int .i64 b] w fun e w' => e = .returned (.int .i64 (Int.lcm a b)) ∧ ∃ n, w.drewN n = w' := by
  obtain ⟨hm, h1, h2, g1, g2⟩ := lcm_eq_mul b1 a1
  rw [Int.gcd_comm, Int.lcm_comm] at hm
  rw [Int.gcd_comm] at h1 h2 g1 g2
  have hb : b * (a / (Int.gcd a b : Int)) ≤ 2147483648 * 2147483648 := Int.mul_le_mul b2 (by omega) (by omega) (by omega)
  rw [hm] at hb
  obtain ⟨L, hL⟩ : ∃ L : Nat, Int.lcm a b = L := ⟨_, rfl⟩
  rw [hL] at hm hb ⊢
  have HG := Lib.hid fun n => ref_Gcd a b (w.drewN n) (by omega) a2 (by omega) b2
  obtain ⟨g, hg⟩ : ∃ g : Nat, Int.gcd a b = g := ⟨_, rfl⟩
  rw [hg] at HG hm h1 h2 g1 g2
  obtain ⟨n, hn⟩ : ∃ n, a / (g : Int) = n := ⟨_, rfl⟩
  rw [hn] at hm h1 h2
  have fn := hn
  have fw : IntKind.i64.wrap (n * b) = (L : Int) := by rw [Int.mul_comm, hm]; exact IntWalk.i64_in _ (by omega)
  have t1 : (a == 0) = false := by rw [beq_eq_false_iff_ne]; omega
  have t2 : (b == 0) = false := by rw [beq_eq_false_iff_ne]; omega
  clear hL hg hn hm
  go_enter Try.func54, Try.ntmps54
  go_wp2_with fail
  go_quiet ((first | (go_at_call 55; exact quiet_same (ref_Abs_pos _ _ (by omega) (by omega))) | (go_at_call 28; exact quiet_same (HG.out _))))
  go_wp2
  go_ret
  exact ⟨rfl, nq, rfl⟩
set_option maxRecDepth 100000 in
set_option maxHeartbeats 3200000 in
theorem ref_RestsCheck (a : Option Addr) (c : Nat) (l : List (Int × Int)) (w : World) {L : Nat} (h : RowP w a c l) (eL : l.length = L) (hl : L ≤ 9223372036854775807) :
    Calls Try.prog 27 #[.slice a L c] w fun e w' => e = .returned (.int .i64 (restsE l)) ∧ Below w.heap.size w w' := by
  have HR := Lib.hid h
  have HL := Lib.hid eL
  have HBad := Lib.hid fun (h : l.length ≤ 8) (j : Nat) (v : Int × Int) (hv : l[j]? = some v) (hb : badR v = true) => restsE_bad h j v hv hb
  have HOver := Lib.hid fun (h : l.length ≤ 8) (hg : ∀ (j : Nat) (v : Int × Int), l[j]? = some v → badR v = false) (I : Nat) (hI : 2147483648 < lcmI 1 (l.take I)) => restsE_over h hg I hI
  have HOk := Lib.hid fun (h : l.length ≤ 8) (hg : ∀ (j : Nat) (v : Int × Int), l[j]? = some v → badR v = false) (hI : lcmI 1 l ≤ 2147483648) => (restsE_lcm h hg).trans (if_neg (by omega))
  have HLong : Hid (8 < l.length → restsE l = 1) := Lib.hid fun h => by unfold restsE; rw [if_pos h]
  obtain ⟨T, hT⟩ : ∃ T, restsE l = T := ⟨_, rfl⟩
  rw [hT] at HBad HOver HOk HLong ⊢
  clear hT h eL
  by_cases h8 : 8 < L
  · have HF := Lib.hid (HLong.out (by rw [HL.out]; exact h8))
    have d8 : decide (8 < (L : Int)) = true := decide_eq_true (by omega)
    go_enter Try.func27, Try.ntmps27
    go_wp2
    go_ret
    exact ⟨by rw [HF.out]; rfl, Below.refl _ _⟩
  · have d8 : decide (8 < (L : Int)) = false := decide_eq_false (by omega)
    replace h8 : L ≤ 8 := by omega
    go_enter Try.func27, Try.ntmps27
    go_wp2
    go_loopw [13] (fun i wr => ∃ I : Nat, i = .int .i64 I ∧ I ≤ L ∧ Below w.heap.size w wr ∧ Hid (∀ (j : Nat) (v : Int × Int), j < I → l[j]? = some v → badR v = false)) (fun i _ => L - (intOf i).toNat)
    case atStart => exact ⟨0, rfl, Nat.zero_le _, Below.refl _ _, Lib.hid fun j v hj => absurd hj (Nat.not_lt_zero _)⟩
    case round =>
      obtain ⟨I, rfl, hI, hb, HZ⟩ := hrel
      by_cases hlt : I < L
      · obtain ⟨v, hv⟩ : ∃ v, l[I]? = some v := ⟨_, List.getElem?_eq_getElem (by rw [HL.out]; omega)⟩
        obtain ⟨b, o, rfl, hcell⟩ := (HR.out.below hb (Nat.le_refl _)).shape (by rw [HL.out]; omega)
        obtain ⟨kx, ky⟩ := hcell I v hv
        have HV := Lib.hid hv
        have hz := hb.size
        have HB := Lib.hid hb
        obtain ⟨x, m⟩ := v
        simp only at kx ky
        clear hcell hv hb
        by_cases c1 : m < 1
        · have HF := Lib.hid (HBad.out (by rw [HL.out]; omega) I _ HV.out (by simp [badR]; omega))
          go_wp2
          go_ret
          exact ⟨by rw [HF.out]; rfl, HB.out.alloc hz _⟩
        by_cases c2 : 1048576 < m
        · have HF := Lib.hid (HBad.out (by rw [HL.out]; omega) I _ HV.out (by simp [badR]; omega))
          go_wp2
          go_ret
          exact ⟨by rw [HF.out]; rfl, HB.out.alloc hz _⟩
        by_cases c3 : farB x = true
        · have HF := Lib.hid (HBad.out (by rw [HL.out]; omega) I _ HV.out (by simp [farB] at c3; simp [badR]; omega))
          have C3 := Lib.hid c3
          clear c3
          go_wp2_with fail
          refine (ref_Far _ _).mono ?_
          rintro e w' ⟨rfl, rfl⟩
          rw [C3.out]
          go_wp2
          go_ret
          exact ⟨by rw [HF.out]; rfl, HB.out.alloc hz _⟩
        have C3 : Hid (farB x = false) := Lib.hid (by simpa using c3)
        clear c3
        go_wp2_with fail
        refine (ref_Far _ _).mono ?_
        rintro e w' ⟨rfl, rfl⟩
        rw [C3.out]
        go_wp2
        go_round
        case rel =>
          refine ⟨I + 1, by go_num, by omega, HB.out.alloc hz _, Lib.hid fun j v hj hv => ?_⟩
          by_cases e : j = I
          · subst e; rw [HV.out] at hv; cases hv; have h3 := C3.out; simp [farB] at h3; simp [badR]; omega
          · exact HZ.out j v (by omega) hv
        case measure => simp [intOf]; omega
      · obtain rfl : I = L := by omega
        have HG : Hid (∀ (j : Nat) (v : Int × Int), l[j]? = some v → badR v = false) := Lib.hid fun j v hv => HZ.out j v (by rw [← HL.out]; exact (List.getElem?_eq_some_iff.1 hv).1) hv
        have HB := Lib.hid hb
        obtain ⟨wo, rfl⟩ : ∃ wo : World, wo = wr := ⟨_, rfl⟩
        clear hb HZ
        go_wp2
        go_loopw [33, 5] (fun i m wr => ∃ (I' : Nat) (M : Int), i = .int .i64 I' ∧ I' ≤ I ∧ m = .int .i64 M ∧ 1 ≤ M ∧ M ≤ 2147483648 ∧ Hid (M = lcmI 1 (l.take I')) ∧ Below wo.heap.size wo wr) (fun i _ _ => I - (intOf i).toNat)
        case atStart => exact ⟨0, 1, rfl, Nat.zero_le _, rfl, by omega, by omega, Lib.hid rfl, Below.refl _ _⟩
        case round =>
          obtain ⟨I', M, rfl, hI', rfl, m1, m2, HM, hbv⟩ := hrel
          by_cases hlt' : I' < I
          · obtain ⟨v, hv⟩ : ∃ v, l[I']? = some v := ⟨_, List.getElem?_eq_getElem (by rw [HL.out]; omega)⟩
            obtain ⟨b, o, rfl, hcell⟩ := (HR.out.below (below_two HB.out hbv) (Nat.le_refl _)).shape (by rw [HL.out]; omega)
            obtain ⟨kx, ky⟩ := hcell I' v hv
            have HV := Lib.hid hv
            have hz := hbv.size
            have HBv := Lib.hid hbv
            obtain ⟨x1, x2, x3, x4⟩ := badR_no (HG.out I' v hv)
            obtain ⟨x, m⟩ := v
            simp only at kx ky x1 x2 x3 x4
            have HLc := Lib.hid fun w => ref_Lcm M m w m1 m2 x1 (by omega)
            have HT : Hid (lcmI 1 (l.take (I' + 1)) = (Int.lcm M m : Int)) := Lib.hid (by
              have h2 : l.take (I' + 1) = l.take I' ++ [(x, m)] := by rw [List.take_add_one (i := I'), hv]; rfl
              rw [h2, lcmI_snoc, ← HM.out])
            have hpos : 1 ≤ (Int.lcm M m : Int) := by have := Int.lcm_pos (m := M) (n := m) (by omega) (by omega); omega
            obtain ⟨N, hN⟩ : ∃ N : Nat, Int.lcm M m = N := ⟨_, rfl⟩
            rw [hN] at HLc HT hpos
            clear hcell hv hbv hN
            go_wp2_with fail
            refine (HLc.out _).mono ?_
            rintro e w3 ⟨rfl, n3, rfl⟩
            have hb3' := below_drewN (HBv.out.alloc hz (.cells #[.int .i64 x, .int .i64 m] 46)) n3
            by_cases hgt : 2147483648 < (N : Int)
            · have HF := Lib.hid (HOver.out (by rw [HL.out]; omega) HG.out (I' + 1) (by rw [HT.out]; exact hgt))
              go_wp2
              go_ret
              exact ⟨by rw [HF.out]; rfl, below_two HB.out hb3'⟩
            · go_wp2
              go_round
              case rel => exact ⟨I' + 1, N, by go_num, by omega, rfl, hpos, by omega, Lib.hid HT.out.symm, hb3'⟩
              case measure => simp [intOf]; omega
          · obtain rfl : I' = I := by omega
            have HF := Lib.hid (HOk.out (by rw [HL.out]; omega) HG.out (by
              have := HM.out
              rw [← HL.out, List.take_length] at this
              omega))
            go_wp2
            go_ret
            exact ⟨by rw [HF.out]; rfl, below_two HB.out hbv⟩
set_option maxHeartbeats 800000 in
theorem keep_fits (x A M : Int) (w : World) (x1 : -4611686018427387904 ≤ x - A) (x2 : x - A ≤ 4611686018427387904) (m1 : 1 ≤ M) (m2 : M ≤ 2147483648) :
    Calls Try.prog 29 #[.int .i64 x, .agg #[.int .i64 A, .int .i64 M]] w fun e w' => e = .returned (.bool ((x - A) % M == 0)) ∧ Below w.heap.size w w' := by
  have fw : IntKind.i64.wrap (x - A) = x - A := IntWalk.i64_in _ (by omega)
  go_enter Try.func29, Try.ntmps29
  go_wp2_with fail
  refine (ref_Mod (x - A) M _ m1 (by omega)).mono ?_
  rintro e w1 ⟨rfl, rfl⟩
  go_wp2
  go_ret
  exact ⟨rfl, (Below.refl _ _).alloc (Nat.le_refl _) _⟩
end Go.Proofs.Ytceocooppjfjjaa
