/- Points that come in; the contracts of lockwrightref.PointsCheck, lockwrightref.Value. -/
import Derived.Test.YtfgmnlphejpcaaaThr
import Derived.Deep.SlicePairs
import Derived.Deep.RegionHeld3
import Derived.BigQuiet
namespace Go.Proofs.Ytfgmnlphejpcaaa
open Go.RowKit
set_option linter.unusedVariables false
set_option linter.unusedSimpArgs false
theorem nodup_of {pts : List (Int × Int)} (h : ∀ (i j : Nat) (u v : Int × Int), j < i → pts[i]? = some u → pts[j]? = some v → u.1 ≠ v.1) : (pts.map (·.1)).Nodup := by
  rw [List.nodup_iff_pairwise_ne, List.pairwise_iff_getElem]
  intro i j hi hj hij e
  rw [List.length_map] at hi hj
  rw [List.getElem_map, List.getElem_map] at e
  exact h j i _ _ hij (List.getElem?_eq_getElem hj) (List.getElem?_eq_getElem hi) e.symm
theorem nodup_ne {pts : List (Int × Int)} (h : (pts.map (·.1)).Nodup) (i j : Nat) (u v : Int × Int) (hij : j < i) (hu : pts[i]? = some u) (hv : pts[j]? = some v) : u.1 ≠ v.1 := fun e => by
  have h1 : (pts.map (·.1))[j]? = some v.1 := by rw [List.getElem?_map, hv]; rfl
  have h2 : (pts.map (·.1))[i]? = some v.1 := by rw [List.getElem?_map, hu, ← e]; rfl
  obtain ⟨g1, e1⟩ := List.getElem?_eq_some_iff.1 h1
  obtain ⟨g2, e2⟩ := List.getElem?_eq_some_iff.1 h2
  have := (List.nodup_iff_pairwise_ne.1 h |> List.pairwise_iff_getElem.1) j i g1 g2 hij
  exact this (e1.trans e2.symm)
set_option maxRecDepth 100000 in
set_option maxHeartbeats 6400000 in
theorem ref_PointsCheck (p : Int) (a : Option Addr) (c : Nat) (pts : List (Int × Int)) (w : World) {L : Nat} (h : RowP w a c pts) (eL : pts.length = L) (hl : L ≤ 9223372036854775807) :
    Calls Try.prog 25 #[.int .i64 p, .slice a L c] w fun e w' => e = .returned (.int .i64 (wrongE p pts)) ∧ Below w.heap.size w w' := by
  have HP := Lib.hid fun w => ref_PrimeCheck p w
  by_cases h0 : primeE p = 0
  · by_cases hlong : 13 < pts.length
    · have e : wrongE p pts = 1 := by unfold wrongE; rw [if_neg (by simpa using h0), if_pos hlong]
      rw [e]
      rw [h0] at HP
      rw [eL] at hlong
      have d1 : decide (13 < (L : Int)) = true := decide_eq_true (by omega)
      clear e h0 h eL
      go_enter Try.func25, Try.ntmps25
      go_wp2_with fail
      refine (HP.out _).mono ?_
      rintro e w1 ⟨rfl, rfl⟩
      go_wp2
      go_ret
      exact ⟨rfl, Below.refl _ _⟩
    · have HB := Lib.hid fun j v => wrongE_bad h0 hlong j v
      have HE := Lib.hid (wrongE_end h0 hlong)
      have HR := Lib.hid h
      have hp := primeE_zero h0
      obtain ⟨T, hT⟩ : ∃ T, wrongE p pts = T := ⟨_, rfl⟩
      rw [hT] at HB HE ⊢
      rw [h0] at HP
      have HL := Lib.hid eL
      rw [eL] at hlong
      have d1 : decide (13 < (L : Int)) = false := decide_eq_false (by omega)
      have p2 := hp.2.1
      have p1 := hp.1
      have hlen : L ≤ 13 := by omega
      clear h0 h eL hT hp hlong
      go_enter Try.func25, Try.ntmps25
      go_wp2_with fail
      refine (HP.out _).mono ?_
      rintro e w1 ⟨rfl, rfl⟩
      go_wp2
      go_loopw [20] (fun i wr => ∃ I : Nat, i = .int .i64 I ∧ I ≤ L ∧ Below w.heap.size w wr ∧ Hid (∀ (j : Nat) (v : Int × Int), j < I → pts[j]? = some v → badP p v = false)) (fun i _ => L - (intOf i).toNat)
      case atStart => exact ⟨0, rfl, Nat.zero_le _, Below.refl _ _, Lib.hid fun j v hj => absurd hj (Nat.not_lt_zero _)⟩
      case round =>
        obtain ⟨I, rfl, hI, hb, HZ⟩ := hrel
        by_cases hlt : I < L
        · obtain ⟨v, hv⟩ : ∃ v, pts[I]? = some v := ⟨_, List.getElem?_eq_getElem (by rw [HL.out]; omega)⟩
          obtain ⟨b, o, rfl, hcell⟩ := (HR.out.below hb (Nat.le_refl _)).shape (by rw [HL.out]; omega)
          obtain ⟨kx, ky⟩ := hcell I v hv
          have HV := Lib.hid hv
          have HBV := Lib.hid (HB.out I v hv)
          have hz := hb.size
          obtain ⟨x, y⟩ := v
          simp only at kx ky
          have HBd := Lib.hid (show badP p (x, y) = (badB p x || badB p y) from rfl)
          have hcase : (x < 0 ∨ p ≤ x ∨ y < 0 ∨ p ≤ y) ∨ (0 ≤ x ∧ x < p ∧ 0 ≤ y ∧ y < p) := by omega
          clear hcell hv
          rcases hcase with hbad | ⟨x1, x2, y1, y2⟩
          · have HF : Hid (T = 2) := Lib.hid (HBV.out (by rw [HBd.out]; simp [badB]; omega))
            by_cases c1 : x < 0 <;> by_cases c2 : y < 0 <;> by_cases c3 : p ≤ x <;> by_cases c4 : p ≤ y <;> first | (exfalso; omega) | skip
            all_goals go_wp2
            all_goals
              go_ret
              exact ⟨by rw [HF.out]; rfl, hb.alloc (by omega) _⟩
          · have HG : Hid (badP p (x, y) = false) := Lib.hid (by rw [HBd.out]; simp [badB]; omega)
            go_wp2
            go_round
            case rel => exact ⟨I + 1, by go_num, by omega, hb.alloc (by omega) _, Lib.hid fun j u hj hu => by
                by_cases e : j = I
                · subst e; rw [HV.out] at hu; cases hu; exact HG.out
                · exact HZ.out j u (by omega) hu⟩
            case measure => simp [intOf]; omega
        · obtain rfl : I = L := by omega
          have HF := Lib.hid (HE.out fun j v hj => HZ.out j v (by rw [← HL.out]; exact (List.getElem?_eq_some_iff.1 hj).1) hj)
          clear HE HZ
          go_wp2
          go_loopw [8] (fun i w2 => ∃ A : Nat, i = .int .i64 A ∧ A ≤ I ∧ Below w.heap.size w w2 ∧ Hid (∀ (i j : Nat) (u v : Int × Int), i < A → j < i → pts[i]? = some u → pts[j]? = some v → u.1 ≠ v.1)) (fun i _ => I - (intOf i).toNat)
          case atStart => exact ⟨0, rfl, Nat.zero_le _, hb, Lib.hid fun i j u v hi => absurd hi (Nat.not_lt_zero _)⟩
          case round =>
            obtain ⟨A, rfl, hA, hbA, HA⟩ := hrel
            by_cases hltA : A < I
            · go_wp2
              go_loopw [9] (fun i w3 => ∃ C : Nat, i = .int .i64 C ∧ C ≤ A ∧ Below w.heap.size w w3 ∧ Hid (∀ (j : Nat) (u v : Int × Int), j < C → pts[A]? = some u → pts[j]? = some v → u.1 ≠ v.1)) (fun i _ => A - (intOf i).toNat)
              case atStart => exact ⟨0, rfl, Nat.zero_le _, hbA, Lib.hid fun j u v hj => absurd hj (Nat.not_lt_zero _)⟩
              case round =>
                obtain ⟨C, rfl, hC, hbC, HC⟩ := hrel
                by_cases hltC : C < A
                · obtain ⟨u, hu⟩ : ∃ v, pts[A]? = some v := ⟨_, List.getElem?_eq_getElem (by rw [HL.out]; omega)⟩
                  obtain ⟨v, hv⟩ : ∃ v, pts[C]? = some v := ⟨_, List.getElem?_eq_getElem (by rw [HL.out]; omega)⟩
                  obtain ⟨b, o, rfl, hcell⟩ := (HR.out.below hbC (Nat.le_refl _)).shape (by rw [HL.out]; omega)
                  have kx := (hcell A u hu).1
                  have ky := (hcell C v hv).1
                  have HU := Lib.hid hu
                  have HV := Lib.hid hv
                  obtain ⟨x, x'⟩ := u
                  obtain ⟨y, y'⟩ := v
                  simp only at kx ky
                  clear hcell hu hv
                  by_cases e : x = y
                  · subst e
                    have HF2 : Hid (T = 4) := Lib.hid (by rw [HF.out, if_neg]; exact fun hnd => nodup_ne hnd A C _ _ hltC HU.out HV.out rfl)
                    have t1 : (x == x) = true := by simp
                    go_wp2_with fail
                    go_quiet (fail)
                    go_wp2
                    go_ret
                    exact ⟨by rw [HF2.out]; rfl, by first | exact below_drewN hbC _ | exact hbC⟩
                  · have HNe := Lib.hid e
                    have t1 : (x == y) = false := by simpa using e
                    clear e
                    go_wp2_with fail
                    go_quiet (fail)
                    go_wp2
                    go_round
                    case rel => exact ⟨C + 1, by go_num, by omega, by first | exact below_drewN hbC _ | exact hbC, Lib.hid fun j u v hj hu hv => by
                        by_cases e : j = C
                        · subst e; rw [HU.out] at hu; rw [HV.out] at hv; cases hu; cases hv; exact HNe.out
                        · exact HC.out j u v (by omega) hu hv⟩
                    case measure => simp [intOf]; omega
                · obtain rfl : C = A := by omega
                  go_wp2
                  go_round
                  case rel => exact ⟨C + 1, by go_num, by omega, hbC, Lib.hid fun i j u v hi hj hu hv => by
                      by_cases e : i = C
                      · subst e; exact HC.out j u v hj hu hv
                      · exact HA.out i j u v (by omega) hj hu hv⟩
                  case measure => simp [intOf]; omega
            · obtain rfl : A = I := by omega
              have HF2 : Hid (T = 0) := Lib.hid (by rw [HF.out, if_pos]; exact nodup_of fun i j u v hj hu hv => HA.out i j u v (by rw [← HL.out]; exact (List.getElem?_eq_some_iff.1 hu).1) hj hu hv)
              go_wp2
              go_ret
              exact ⟨by rw [HF2.out]; rfl, hbA⟩
  · have e : wrongE p pts = primeE p := by unfold wrongE; rw [if_pos h0]
    rw [e]
    obtain ⟨t, ht⟩ : ∃ t, primeE p = t := ⟨_, rfl⟩
    rw [ht] at HP h0 ⊢
    have e1 : (t == 0) = false := by simpa using h0
    have e2 : (t != 0) = true := by simpa using h0
    clear e h0 h eL ht
    go_enter Try.func25, Try.ntmps25
    go_wp2_with fail
    refine (HP.out _).mono ?_
    rintro e w1 ⟨rfl, rfl⟩
    go_wp2
    go_ret
    exact ⟨rfl, Below.refl _ _⟩
end Go.Proofs.Ytfgmnlphejpcaaa
