/- The walk of CrtUnique. -/
import Derived.Test.YtceocooppjfjjaaCrtS
import Derived.Test.YtceocooppjfjjaaCrtR
namespace Go.Proofs.Ytceocooppjfjjaa
open Go.RowKit
set_option linter.unusedVariables false
set_option linter.unusedSimpArgs false
theorem bezout_nat (a b : Nat) : ∃ x y : Int, x * a + y * b = (Nat.gcd a b : Int) := by
  induction a, b using Nat.gcd.induction with
  | H0 n => exact ⟨0, 1, by simp⟩
  | H1 m n hm ih =>
    obtain ⟨x, y, h⟩ := ih
    refine ⟨y - x * ((n / m : Nat) : Int), x, ?_⟩
    rw [Nat.gcd_rec, ← h]
    have e : ((n : Nat) : Int) = (m : Int) * ((n / m : Nat) : Int) + ((n % m : Nat) : Int) := by
      rw [← Int.natCast_mul, ← Int.natCast_add, Nat.div_add_mod]
    rw [e]
    grind
theorem bezout_pos {a b : Int} (ha : 1 ≤ a) (hb : 1 ≤ b) : ∃ x y : Int, x * a + y * b = (Int.gcd a b : Int) := by
  obtain ⟨x, y, h⟩ := bezout_nat a.natAbs b.natAbs
  exact ⟨x, y, by rw [Int.natAbs_of_nonneg (by omega), Int.natAbs_of_nonneg (by omega)] at h; exact h⟩
/-- are all pairs of the first moduli coprime -/
def Apart (l : List (Int × Int)) (I : Nat) : Prop := ∀ (i j : Nat) (u v : Int × Int), j < i → i < I → l[i]? = some u → l[j]? = some v → Int.gcd u.2 v.2 = 1
def ApartIn (l : List (Int × Int)) (I J : Nat) : Prop := ∀ (j : Nat) (u v : Int × Int), j < J → l[I]? = some u → l[j]? = some v → Int.gcd u.2 v.2 = 1
theorem Apart.next {l : List (Int × Int)} {I : Nat} (h : Apart l I) (h2 : ApartIn l I I) : Apart l (I + 1) := fun i j u v hj hi hu hv => by
  by_cases e : i = I
  · subst e; exact h2 j u v hj hu hv
  · exact h i j u v hj (by omega) hu hv
theorem ApartIn.next {l : List (Int × Int)} {I J : Nat} {u v : Int × Int} (h : ApartIn l I J) (hu : l[I]? = some u) (hv : l[J]? = some v) (h2 : Int.gcd u.2 v.2 = 1) : ApartIn l I (J + 1) := fun j u' v' hj hu' hv' => by
  rw [hu] at hu'; cases hu'
  by_cases e : j = J
  · subst e; rw [hv] at hv'; cases hv'; exact h2
  · exact h j u v' (by omega) hu hv'
/-- coprime congruences have a solution -/
theorem apart_sol {l : List (Int × Int)} (hp : ∀ v ∈ l, 1 ≤ v.2) (h : Apart l l.length) : ∀ I, I ≤ l.length → ∃ A M, CInv (l.take I) A M
  | 0, _ => ⟨0, 1, cinv_nil⟩
  | I + 1, hI => by
    obtain ⟨A, M, hC⟩ := apart_sol hp h I (by omega)
    have hv : l[I]? = some l[I] := List.getElem?_eq_getElem (by omega)
    obtain ⟨v, hve⟩ : ∃ v, l[I] = v := ⟨_, rfl⟩
    rw [hve] at hv
    have v1 := hp v (List.mem_of_getElem? hv)
    have hg : Int.gcd M v.2 = 1 := by
      rw [hC.lc]
      refine gcd_lcmI _ 1 v.2 (by simp) (fun u hu => ?_)
      obtain ⟨j, hj, rfl⟩ := List.mem_iff_getElem.1 hu
      have hj2 : j < I := by rw [List.length_take] at hj; omega
      rw [List.getElem_take, Int.gcd_comm]
      exact h I j v _ hj2 (by omega) hv (List.getElem?_eq_getElem (by omega))
    obtain ⟨x, y, hxy⟩ := bezout_pos hC.m1 v1
    obtain ⟨e1, e2, e3⟩ := join_law (A1 := A) (A2 := v.1 % v.2) hC.m1 v1 rfl hxy (by rw [hg]; exact Int.one_dvd _) rfl rfl rfl
    have hpos : 1 ≤ (Int.lcm M v.2 : Int) := by have := Int.lcm_pos (m := M) (n := v.2) (by have := hC.m1; omega) (by omega); omega
    have hs : l.take (I + 1) = l.take I ++ [v] := by rw [List.take_add_one, hv]; rfl
    rw [hs]
    rw [e1] at e2 e3
    exact ⟨_, _, join_yes hC v1 rfl (Int.emod_nonneg _ (by omega)) (Int.emod_lt_of_pos _ (by omega)) e2 e3⟩
theorem apart_no {l : List (Int × Int)} (hp : ∀ v ∈ l, 1 ≤ v.2) (h : Apart l l.length) (hn : ∀ x, ¬ FitsAll l x) : False := by
  obtain ⟨A, M, hC⟩ := apart_sol hp h l.length (Nat.le_refl _)
  rw [List.take_length] at hC
  exact hn A ((hC.fit A).2 (by simp))
theorem sol_any {l : List (Int × Int)} {w w' : World} {e : Ending} (h : SolP l w e w') : (∃ A M E : Int, e = .returned (.tuple #[.agg #[.int .i64 A, .int .i64 M], .int .i64 E]) ∧ Hid ((E = 0 ∧ CInv l A M) ∨ (E = 5 ∧ ∀ x, ¬ FitsAll l x))) ∧ Below w.heap.size w w' := by
  obtain ⟨⟨A, M, h1, rfl⟩ | ⟨h1, rfl⟩, hb⟩ := h
  · exact ⟨⟨A, M, 0, rfl, Lib.hid (.inl ⟨rfl, h1⟩)⟩, hb⟩
  · exact ⟨⟨0, 0, 5, rfl, Lib.hid (.inr ⟨rfl, h1⟩)⟩, hb⟩
/-- do the first congruences fit -/
def FitTo (l : List (Int × Int)) (x : Int) (I : Nat) (b : Bool) : Prop := b = true ↔ FitsAll (l.take I) x
theorem FitTo.no {l : List (Int × Int)} {x : Int} {I : Nat} (h : FitTo l x I false) : FitTo l x (I + 1) false := by
  constructor
  · intro h; cases h
  · intro hf
    refine absurd (h.2 fun v hv => hf v ?_) (by simp)
    rw [List.take_add_one]; exact List.mem_append_left _ hv
theorem FitTo.yes {l : List (Int × Int)} {x : Int} {I : Nat} {v : Int × Int} (h : FitTo l x I true) (hv : l[I]? = some v) : FitTo l x (I + 1) ((x - v.1) % v.2 == 0) := by
  have h0 := h.1 rfl
  have hs : l.take (I + 1) = l.take I ++ [v] := by rw [List.take_add_one, hv]; rfl
  unfold FitTo
  rw [hs, beq_iff_eq]
  constructor
  · intro hd u hu
    rcases List.mem_append.1 hu with hu | hu
    · exact h0 u hu
    · simp at hu; subst hu; exact Int.dvd_of_emod_eq_zero hd
  · intro hf; exact Int.emod_eq_zero_of_dvd (hf v (by simp))
set_option maxRecDepth 100000 in
set_option maxHeartbeats 6400000 in
theorem WCrtUnique (a0 : Option Addr) (len0 cap0 : Nat) (z0 : List (Int × Int)) (a1 : Int) (w : World) (w0 : IsPts w a0 len0 cap0 z0) (w1 : (Lit.int .i64 a1).wf = true) :
    Calls Try.prog 9 #[.slice a0 len0 cap0, .int .i64 a1] w fun e w' => e = .returned (.bool true) ∧ Below w.heap.size w w' := by
  obtain ⟨e0, h0, l0⟩ := w0.pts
  have b1 := wf64 w1
  clear w0 w1
  by_cases hr : restsE z0 = 0
  · obtain ⟨h8, hg, hlc⟩ := restsE_zero hr
    have HS := Lib.hid (crt_Solve a0 cap0 z0 w h0 e0 hr)
    have HC := Lib.hid fun w' (hb : Below w.heap.size w w') => ref_RestsCheck a0 cap0 z0 w' (h0.below hb (Nat.le_refl _)) e0 l0
    rw [hr] at HC
    have HR := Lib.hid h0
    have HL := Lib.hid e0
    have HG := Lib.hid hg
    have HPos := Lib.hid (rests_pos hg)
    have HLc := Lib.hid hlc
    rw [e0] at h8
    clear h0 e0 hr hg hlc
    go_enter Try.func9, Try.ntmps9
    go_wp2_with fail
    refine HS.out.mono ?_
    rintro e w1 hsol
    obtain ⟨⟨A, M, E, rfl, HE⟩, hb1⟩ := sol_any hsol
    clear hsol
    have hB1 : Below w.heap.size w (w1.alloc (.cells #[.int .i64 A, .int .i64 M] 46)) := hb1.alloc hb1.size _
    go_wp2_with fail
    refine (HC.out _ hB1).mono ?_
    rintro e w2 ⟨rfl, hb2⟩
    have c0 := kept hb2 (b := w1.heap.size) (o := 0) (v := .int .i64 A) (by simp [go_sem]) (by simp)
    have c1 := kept hb2 (b := w1.heap.size) (o := 1) (v := .int .i64 M) (by simp [go_sem]) (by simp)
    have zc := World.block_lt_of_cell? w2 _ c0
    simp only at zc
    have hb := below_two hB1 hb2
    have C0 := Lib.hid c0
    have C1 := Lib.hid c1
    have HB := Lib.hid hb
    clear hb1 hB1 hb2 c0 c1 hb
    go_wp2
    go_loopw [8, 7] (fun i p wr => ∃ (I : Nat) (bb : Bool), i = .int .i64 I ∧ I ≤ len0 ∧ p = .bool bb ∧ Hid (bb = true → Apart z0 I) ∧ Below w2.heap.size w2 wr) (fun i _ _ => len0 - (intOf i).toNat)
    case atStart => exact ⟨0, true, rfl, Nat.zero_le _, rfl, Lib.hid fun _ i j u v hj hi => absurd hi (Nat.not_lt_zero _), Below.refl _ _⟩
    case round =>
      obtain ⟨I, bb, rfl, hI, rfl, HA, hbI⟩ := hrel
      by_cases hlt : I < len0
      · obtain ⟨u, hu⟩ : ∃ u, z0[I]? = some u := ⟨_, List.getElem?_eq_getElem (by rw [HL.out]; omega)⟩
        obtain ⟨x1, x2, _, _⟩ := badR_no (HG.out I u hu)
        have HU := Lib.hid hu
        have HbI := Lib.hid hbI
        obtain ⟨wo, rfl⟩ : ∃ wo : World, wo = wr := ⟨_, rfl⟩
        clear hu hbI
        go_wp2
        go_loopw [9, 7] (fun j p wr => ∃ (J : Nat) (b2 : Bool), j = .int .i64 J ∧ J ≤ I ∧ p = .bool b2 ∧ Hid (b2 = true → Apart z0 I ∧ ApartIn z0 I J) ∧ Below wo.heap.size wo wr) (fun j _ _ => I - (intOf j).toNat)
        case atStart => exact ⟨0, bb, rfl, Nat.zero_le _, rfl, Lib.hid fun h => ⟨HA.out h, fun j u v hj => absurd hj (Nat.not_lt_zero _)⟩, Below.refl _ _⟩
        case round =>
          obtain ⟨J, b2, rfl, hJ, rfl, HA2, hbJ⟩ := hrel
          by_cases hlt2 : J < I
          · rcases b2 with _ | _
            · have HbJ := Lib.hid hbJ
              clear hbJ
              go_wp2_with fail
              go_quiet (fail)
              go_wp2
              go_round
              case rel => exact ⟨J + 1, false, by go_num, by omega, rfl, Lib.hid (fun h => by cases h), below_drewN HbJ.out _⟩
              case measure => simp [intOf]; omega
            · obtain ⟨v, hv⟩ : ∃ v, z0[J]? = some v := ⟨_, List.getElem?_eq_getElem (by rw [HL.out]; omega)⟩
              obtain ⟨y1, y2, _, _⟩ := badR_no (HG.out J v hv)
              obtain ⟨b, o, rfl, hcell⟩ := (HR.out.below (below_two HB.out (below_two HbI.out hbJ)) (Nat.le_refl _)).shape (by rw [HL.out]; omega)
              have ku := (hcell I u HU.out).2
              have kv := (hcell J v hv).2
              have HV := Lib.hid hv
              have HbJ := Lib.hid hbJ
              obtain ⟨u1, u2⟩ := u
              obtain ⟨v1, v2⟩ := v
              simp only at ku kv x1 x2 y1 y2
              have i1 : (0 : Int) ≤ I := by omega
              have i2 : (I : Int) < len0 := by omega
              have i3 : (0 : Int) ≤ J := by omega
              have i4 : (J : Int) < len0 := by omega
              obtain ⟨g, hg⟩ : ∃ g : Nat, Int.gcd u2 v2 = g := ⟨_, rfl⟩
              have HGc := Lib.hid fun n => ref_Gcd u2 v2 (wr.drewN n) (by omega) (by omega) (by omega) (by omega)
              rw [hg] at HGc
              have HGe := Lib.hid hg
              clear hcell hv hbJ hg
              by_cases hg1 : g = 1
              · subst hg1
                go_wp2_with fail
                go_quiet ((go_at_call 28; exact quiet_same (HGc.out _)))
                go_wp2
                go_round
                case rel => exact ⟨J + 1, true, by go_num, by omega, rfl, Lib.hid fun _ => ⟨(HA2.out (by trivial)).1, (HA2.out (by trivial)).2.next HU.out HV.out HGe.out⟩, below_drewN HbJ.out _⟩
                case measure => simp [intOf]; omega
              · have q1 : ((g : Int) == 1) = false := by rw [beq_eq_false_iff_ne]; omega
                go_wp2_with fail
                go_quiet ((go_at_call 28; exact quiet_same (HGc.out _)))
                go_wp2
                go_round
                case rel => exact ⟨J + 1, false, by go_num, by omega, rfl, Lib.hid (fun h => by cases h), below_drewN HbJ.out _⟩
                case measure => simp [intOf]; omega
          · obtain rfl : J = I := by omega
            go_wp2
            go_round
            case rel => exact ⟨J + 1, b2, by go_num, by omega, rfl, Lib.hid fun h => (HA2.out h).1.next (HA2.out h).2, below_two HbI.out hbJ⟩
            case measure => simp [intOf]; omega
      · obtain rfl : I = len0 := by omega
        obtain ⟨wo, rfl⟩ : ∃ wo : World, wo = wr := ⟨_, rfl⟩
        have hbw := below_two HB.out hbI
        have c0 := kept hbI C0.out zc
        have c1 := kept hbI C1.out zc
        rcases HE.out with ⟨rfl, hC⟩ | ⟨rfl, hN⟩
        · have m1 := hC.m1
          have x0 := hC.a0
          have xm := hC.am
          have ml : M ≤ 2147483648 := by have := hC.lc; have := HLc.out; omega
          have HC2 := Lib.hid hC
          clear hC
          by_cases hf : farB a1 = true
          · have F := Lib.hid hf
            clear hf
            go_wp2_with fail
            refine (keep_near _ _).mono ?_
            rintro e w' ⟨rfl, rfl⟩
            rw [F.out]
            go_wp2
            go_ret
            exact ⟨rfl, hbw⟩
          · have F : Hid (farB a1 = false) := Lib.hid (by simpa using hf)
            have hfa := F.out
            simp [farB] at hfa
            obtain ⟨f1, f2⟩ := hfa
            clear hf
            have HbI := Lib.hid hbI
            clear hbI
            go_wp2_with fail
            refine (keep_near _ _).mono ?_
            rintro e w' ⟨rfl, rfl⟩
            rw [F.out]
            go_wp2
            go_loopw [90, 10] (fun i p wr => ∃ (I' : Nat) (b3 : Bool), i = .int .i64 I' ∧ I' ≤ I ∧ p = .bool b3 ∧ Hid (FitTo z0 a1 I' b3) ∧ Below wo.heap.size wo wr) (fun i _ _ => I - (intOf i).toNat)
            case atStart => exact ⟨0, true, rfl, Nat.zero_le _, rfl, Lib.hid (by simp [FitTo, FitsAll]), Below.refl _ _⟩
            case round =>
              obtain ⟨I', b3, rfl, hI', rfl, HFt, hbv⟩ := hrel
              have hz := hbv.size
              by_cases hlt' : I' < I
              · obtain ⟨v, hv⟩ : ∃ v, z0[I']? = some v := ⟨_, List.getElem?_eq_getElem (by rw [HL.out]; omega)⟩
                obtain ⟨y1, y2, y3, y4⟩ := badR_no (HG.out I' v hv)
                obtain ⟨b, o, rfl, hcell⟩ := (HR.out.below (below_two hbw hbv) (Nat.le_refl _)).shape (by rw [HL.out]; omega)
                obtain ⟨kx, ky⟩ := hcell I' v hv
                have HV := Lib.hid hv
                have Hbv := Lib.hid hbv
                obtain ⟨vx, vm⟩ := v
                simp only at kx ky y1 y2 y3 y4
                clear hcell hv hbv
                rcases b3 with _ | _
                · go_wp2
                  go_round
                  case rel => exact ⟨I' + 1, false, by go_num, by omega, rfl, Lib.hid HFt.out.no, Hbv.out.alloc hz _⟩
                  case measure => simp [intOf]; omega
                · go_wp2_with fail
                  refine (keep_fits a1 vx vm _ (by omega) (by omega) y1 (by omega)).mono ?_
                  rintro e w5 ⟨rfl, hb5⟩
                  have hb5' := below_two (Hbv.out.alloc hz _) hb5
                  go_wp2
                  go_round
                  case rel => exact ⟨I' + 1, _, by go_num, by omega, rfl, Lib.hid (HFt.out.yes HV.out), hb5'⟩
                  case measure => simp [intOf]; omega
              · obtain rfl : I' = I := by omega
                have d0 := kept hbv c0 (World.block_lt_of_cell? wo _ c0)
                have d1 := kept hbv c1 (World.block_lt_of_cell? wo _ c1)
                have hbf := below_two hbw hbv
                have hb3 : b3 = ((a1 - A) % M == 0) := by
                  have h1 := HFt.out
                  unfold FitTo at h1
                  rw [← HL.out, List.take_length, HC2.out.fit a1] at h1
                  rw [Bool.eq_iff_iff, h1, beq_iff_eq]
                  exact ⟨Int.emod_eq_zero_of_dvd, Int.dvd_of_emod_eq_zero⟩
                have HB3 := Lib.hid hb3
                clear hb3 hbv
                go_wp2_with fail
                refine (keep_fits a1 A M _ (by omega) (by omega) m1 ml).mono ?_
                rintro e w5 ⟨rfl, hb5⟩
                rw [← HB3.out]
                go_wp2
                go_ret
                exact ⟨by simp, below_two hbf hb5⟩
        · have hbb : bb = false := by
            cases bb
            · rfl
            · exact (apart_no HPos.out (by rw [HL.out]; exact HA.out rfl) hN).elim
          subst hbb
          clear hN
          go_wp2
          go_ret
          exact ⟨rfl, hbw⟩
  · have HS := Lib.hid (crt_Solve_bad a0 cap0 z0 w h0 e0 l0 hr)
    have HC := Lib.hid fun w' (hb : Below w.heap.size w w') => ref_RestsCheck a0 cap0 z0 w' (h0.below hb (Nat.le_refl _)) e0 l0
    obtain ⟨T, hT⟩ : ∃ T, restsE z0 = T := ⟨_, rfl⟩
    rw [hT] at HS HC hr
    have t1 : (T == 0) = false := by simpa using hr
    have t2 : (T != 0) = true := by simpa using hr
    clear h0 e0 hr hT
    go_enter Try.func9, Try.ntmps9
    go_wp2_with fail
    refine HS.out.mono ?_
    rintro e w1 ⟨rfl, hb1⟩
    have hB1 : Below w.heap.size w (w1.alloc (.cells #[.int .i64 0, .int .i64 0] 46)) := hb1.alloc hb1.size _
    go_wp2_with fail
    refine (HC.out _ hB1).mono ?_
    rintro e w2 ⟨rfl, hb2⟩
    go_wp2
    go_ret
    exact ⟨rfl, below_two hB1 hb2⟩
end Go.Proofs.Ytceocooppjfjjaa
