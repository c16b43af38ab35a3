/- The contract of crt.wrong. -/
import Derived.Test.YtceocooppjfjjaaCrt
namespace Go.Proofs.Ytceocooppjfjjaa
open Go.RowKit
set_option linter.unusedVariables false
set_option linter.unusedSimpArgs false
theorem restsE_bad {l : List (Int × Int)} (h : l.length ≤ 8) (j : Nat) (v : Int × Int) (hv : l[j]? = some v) (hb : badR v = true) : restsE l = 2 := by
  unfold restsE; rw [if_neg (by omega), if_pos (List.any_eq_true.2 ⟨v, List.mem_of_getElem? hv, hb⟩)]
theorem any_badR {l : List (Int × Int)} (hg : ∀ (j : Nat) (v : Int × Int), l[j]? = some v → badR v = false) : l.any badR = false := by
  rw [List.any_eq_false]
  intro v hv
  obtain ⟨j, hj, rfl⟩ := List.mem_iff_getElem.1 hv
  rw [hg j _ (List.getElem?_eq_getElem hj)]; simp
theorem restsE_lcm {l : List (Int × Int)} (h : l.length ≤ 8) (hg : ∀ (j : Nat) (v : Int × Int), l[j]? = some v → badR v = false) : restsE l = if 2147483648 < lcmI 1 l then 2 else 0 := by
  unfold restsE; rw [if_neg (by omega), if_neg (by rw [any_badR hg]; simp)]
theorem rests_pos {l : List (Int × Int)} (hg : ∀ (j : Nat) (v : Int × Int), l[j]? = some v → badR v = false) : ∀ v ∈ l, 1 ≤ v.2 := fun v hv => by
  obtain ⟨j, hj, rfl⟩ := List.mem_iff_getElem.1 hv
  exact (badR_no (hg j _ (List.getElem?_eq_getElem hj))).1
theorem restsE_over {l : List (Int × Int)} (h : l.length ≤ 8) (hg : ∀ (j : Nat) (v : Int × Int), l[j]? = some v → badR v = false) (I : Nat) (hI : 2147483648 < lcmI 1 (l.take I)) : restsE l = 2 := by
  rw [restsE_lcm h hg, if_pos]
  have := (lcmI_take_le (rests_pos hg) I).2
  omega
set_option maxRecDepth 100000 in
set_option maxHeartbeats 3200000 in
theorem crt_wrong (a : Option Addr) (c : Nat) (l : List (Int × Int)) (w : World) {L : Nat} (h : RowP w a c l) (eL : l.length = L) (hl : L ≤ 9223372036854775807) :
    Calls Try.prog 52 #[.slice a L c] w fun e w' => e = .returned (.int .i64 (restsE l)) ∧ Below w.heap.size w w' := by
  have HR := Lib.hid h
  have HL := Lib.hid eL
  have HBad := Lib.hid fun (h : l.length ≤ 8) (j : Nat) (v : Int × Int) (hv : l[j]? = some v) (hb : badR v = true) => restsE_bad h j v hv hb
  have HOver := Lib.hid fun (h : l.length ≤ 8) (hg : ∀ (j : Nat) (v : Int × Int), l[j]? = some v → badR v = false) (I : Nat) (hI : 2147483648 < lcmI 1 (l.take I)) => restsE_over h hg I hI
  have HOk := Lib.hid fun (h : l.length ≤ 8) (hg : ∀ (j : Nat) (v : Int × Int), l[j]? = some v → badR v = false) (hI : lcmI 1 l ≤ 2147483648) => (restsE_lcm h hg).trans (if_neg (by omega))
  have HLong : Hid (8 < l.length → restsE l = 1) := Lib.hid fun h => by unfold restsE; rw [if_pos h]
  obtain ⟨T, hT⟩ : ∃ T, restsE l = T := ⟨_, rfl⟩
  rw [hT] at HBad HOver HOk HLong ⊢
  clear hT h eL
  by_cases h8 : 8 < L
  · have HF := Lib.hid (HLong.out (by rw [HL.out]; exact h8))
    have d8 : decide (8 < (L : Int)) = true := decide_eq_true (by omega)
    go_enter Try.func52, Try.ntmps52
    go_wp2
    go_ret
    exact ⟨by rw [HF.out]; rfl, Below.refl _ _⟩
  · have d8 : decide (8 < (L : Int)) = false := decide_eq_false (by omega)
    replace h8 : L ≤ 8 := by omega
    go_enter Try.func52, Try.ntmps52
    go_wp2
    go_loopw [13] (fun i wr => ∃ I : Nat, i = .int .i64 I ∧ I ≤ L ∧ Below w.heap.size w wr ∧ Hid (∀ (j : Nat) (v : Int × Int), j < I → l[j]? = some v → badR v = false)) (fun i _ => L - (intOf i).toNat)
    case atStart => exact ⟨0, rfl, Nat.zero_le _, Below.refl _ _, Lib.hid fun j v hj => absurd hj (Nat.not_lt_zero _)⟩
    case round =>
      obtain ⟨I, rfl, hI, hb, HZ⟩ := hrel
      by_cases hlt : I < L
      · obtain ⟨v, hv⟩ : ∃ v, l[I]? = some v := ⟨_, List.getElem?_eq_getElem (by rw [HL.out]; omega)⟩
        obtain ⟨b, o, rfl, hcell⟩ := (HR.out.below hb (Nat.le_refl _)).shape (by rw [HL.out]; omega)
        obtain ⟨kx, ky⟩ := hcell I v hv
        have HV := Lib.hid hv
        have hz := hb.size
        have HB := Lib.hid hb
        obtain ⟨x, m⟩ := v
        simp only at kx ky
        clear hcell hv hb
        by_cases c1 : m < 1
        · have HF := Lib.hid (HBad.out (by rw [HL.out]; omega) I _ HV.out (by simp [badR]; omega))
          go_wp2
          go_ret
          exact ⟨by rw [HF.out]; rfl, HB.out.alloc hz _⟩
        by_cases c2 : 1048576 < m
        · have HF := Lib.hid (HBad.out (by rw [HL.out]; omega) I _ HV.out (by simp [badR]; omega))
          go_wp2
          go_ret
          exact ⟨by rw [HF.out]; rfl, HB.out.alloc hz _⟩
        by_cases c3 : x < -2147483648
        · have HF := Lib.hid (HBad.out (by rw [HL.out]; omega) I _ HV.out (by simp [badR]; omega))
          go_wp2
          go_ret
          exact ⟨by rw [HF.out]; rfl, HB.out.alloc hz _⟩
        by_cases c4 : 2147483648 < x
        · have HF := Lib.hid (HBad.out (by rw [HL.out]; omega) I _ HV.out (by simp [badR]; omega))
          go_wp2
          go_ret
          exact ⟨by rw [HF.out]; rfl, HB.out.alloc hz _⟩
        go_wp2
        go_round
        case rel =>
          refine ⟨I + 1, by go_num, by omega, HB.out.alloc hz _, Lib.hid fun j v hj hv => ?_⟩
          by_cases e : j = I
          · subst e; rw [HV.out] at hv; cases hv; simp [badR]; omega
          · exact HZ.out j v (by omega) hv
        case measure => simp [intOf]; omega
      · obtain rfl : I = L := by omega
        have HG : Hid (∀ (j : Nat) (v : Int × Int), l[j]? = some v → badR v = false) := Lib.hid fun j v hv => HZ.out j v (by rw [← HL.out]; exact (List.getElem?_eq_some_iff.1 hv).1) hv
        have HB := Lib.hid hb
        obtain ⟨wo, rfl⟩ : ∃ wo : World, wo = wr := ⟨_, rfl⟩
        clear hb HZ
        go_wp2
        go_loopw [38, 5] (fun i m wr => ∃ (I' : Nat) (M : Int), i = .int .i64 I' ∧ I' ≤ I ∧ m = .int .i64 M ∧ 1 ≤ M ∧ M ≤ 2147483648 ∧ Hid (M = lcmI 1 (l.take I')) ∧ Below wo.heap.size wo wr) (fun i _ _ => I - (intOf i).toNat)
        case atStart => exact ⟨0, 1, rfl, Nat.zero_le _, rfl, by omega, by omega, Lib.hid rfl, Below.refl _ _⟩
        case round =>
          obtain ⟨I', M, rfl, hI', rfl, m1, m2, HM, hbv⟩ := hrel
          by_cases hlt' : I' < I
          · obtain ⟨v, hv⟩ : ∃ v, l[I']? = some v := ⟨_, List.getElem?_eq_getElem (by rw [HL.out]; omega)⟩
            obtain ⟨b, o, rfl, hcell⟩ := (HR.out.below (below_two HB.out hbv) (Nat.le_refl _)).shape (by rw [HL.out]; omega)
            obtain ⟨kx, ky⟩ := hcell I' v hv
            have HV := Lib.hid hv
            have hz := hbv.size
            have HBv := Lib.hid hbv
            obtain ⟨x1, x2, x3, x4⟩ := badR_no (HG.out I' v hv)
            obtain ⟨x, m⟩ := v
            simp only at kx ky x1 x2 x3 x4
            have HLc := Lib.hid fun w => euclid_Lcm M m w (by omega) m2 (by omega) (by omega)
            have HT : Hid (lcmI 1 (l.take (I' + 1)) = (Int.lcm M m : Int)) := Lib.hid (by
              have h2 : l.take (I' + 1) = l.take I' ++ [(x, m)] := by rw [List.take_add_one (i := I'), hv]; rfl
              rw [h2, lcmI_snoc, ← HM.out])
            have hpos : 1 ≤ (Int.lcm M m : Int) := by have := Int.lcm_pos (m := M) (n := m) (by omega) (by omega); omega
            obtain ⟨N, hN⟩ : ∃ N : Nat, Int.lcm M m = N := ⟨_, rfl⟩
            rw [hN] at HLc HT hpos
            clear hcell hv hbv hN
            go_wp2_with fail
            refine (HLc.out _).mono ?_
            rintro e w3 ⟨rfl, hb3⟩
            have hb3' := below_two (HBv.out.alloc hz _) hb3
            by_cases hgt : 2147483648 < (N : Int)
            · have HF := Lib.hid (HOver.out (by rw [HL.out]; omega) HG.out (I' + 1) (by rw [HT.out]; exact hgt))
              go_wp2
              go_ret
              exact ⟨by rw [HF.out]; rfl, below_two HB.out hb3'⟩
            · go_wp2
              go_round
              case rel => exact ⟨I' + 1, N, by go_num, by omega, rfl, hpos, by omega, Lib.hid HT.out.symm, hb3'⟩
              case measure => simp [intOf]; omega
          · obtain rfl : I' = I := by omega
            have HF := Lib.hid (HOk.out (by rw [HL.out]; omega) HG.out (by
              have := HM.out
              rw [← HL.out, List.take_length] at this
              omega))
            go_wp2
            go_ret
            exact ⟨by rw [HF.out]; rfl, below_two HB.out hbv⟩
end Go.Proofs.Ytceocooppjfjjaa
