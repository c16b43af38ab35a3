/- The walk of ShareHides. -/
import Derived.Test.YtfgmnlphejpcaaaWShEn
import Derived.Test.YtfgmnlphejpcaaaExp
import Derived.Test.YtfgmnlphejpcaaaPolR
import Derived.Laws.StructEq
import Derived.BigQuiet
namespace Go.Proofs.Ytfgmnlphejpcaaa
open Go.RowKit Go.Maps
set_option linter.unusedVariables false
set_option linter.unusedSimpArgs false
theorem ptsL_at (p : Int) (xs : List Int) (n I : Nat) (h : I < n) : (ptsL p xs n)[I]? = some ((I : Int) + 1, valL p xs ((I : Int) + 1)) := by
  simp [ptsL, List.getElem?_map, List.getElem?_range h]
theorem int_pred {x : Int} (h : 1 ≤ x) : ∃ X : Nat, x = (X : Int) + 1 := ⟨(x - 1).toNat, by omega⟩
set_option maxRecDepth 100000 in
set_option maxHeartbeats 6400000 in
theorem WShareHides (a0 : Int) (a1 : Int) (a2 : Option Addr) (len2 cap2 : Nat) (z2 : List Int) (a3 : Int) (a4 : Int) (a5 : Int) (a6 : Option Addr) (len6 cap6 : Nat) (z6 : List Int) (w : World) (w0 : (Lit.int .i64 a0).wf = true) (w1 : (Lit.int .i64 a1).wf = true) (w2 : IsRow .i64 w a2 len2 cap2 z2) (w3 : (Lit.int .i64 a3).wf = true) (w4 : (Lit.int .u32 a4).wf = true) (w5 : (Lit.int .i64 a5).wf = true) (w6 : IsRow .i64 w a6 len6 cap6 z6) :
    Calls Try.prog 10 #[.int .i64 a0, .int .i64 a1, .slice a2 len2 cap2, .int .i64 a3, .int .u32 a4, .int .i64 a5, .slice a6 len6 cap6] w fun e w' => e = .returned (.bool true) ∧ Below w.heap.size w w' := by
  obtain ⟨ms, e2, h2, _, m2⟩ := w2.longs
  obtain ⟨gs, e6, h6, _, m6⟩ := w6.longs
  obtain ⟨k1, k2⟩ := wf32 w4
  clear w0 w1 w2 w3 w4 w5 w6 z2 z6
  unfold maxLen at m2 m6
  have HR := Lib.hid h2
  have E2 := Lib.hid e2
  have HR6 := Lib.hid h6
  have E6 := Lib.hid e6
  by_cases hg : GoodS a0 a1 ms a3
  · have G := Lib.hid hg
    have hnp := hg.np
    have hl2 : len2 ≤ 12 := by rw [← e2]; exact hg.len
    have hp := primeE_zero hg.pr
    have HPR := Lib.hid hp.2.2
    have p1 := hp.1
    have p2' := hp.2.1
    obtain ⟨n, rfl⟩ := Int.eq_ofNat_of_zero_le hg.n0
    have HS := Lib.hid (share_Split a0 a1 n a2 cap2 ms w hg HR.out e2)
    have hn251 : n ≤ 251 := by omega
    clear hg h2 e2 h6 e6 hp
    go_enter Try.func10, Try.ntmps10
    go_wp2_with fail
    refine HS.out.mono ?_
    rintro e w1 ⟨⟨v1, rfl, ho1⟩, hb1⟩
    rw [ptsL_flat] at ho1
    obtain ⟨p1, c1, rfl, hp1⟩ := own_rowP (pts := ptsL a0 (a1 :: ms) n) (by rw [ptsL_len]; exact ho1)
    have HFew := Lib.hid (keep_few a4 p1 c1 _ w1 hp1 (ptsL_len _ _ _) (by omega) k1 k2)
    rw [ptsL_len]
    clear ho1 hp1
    go_wp2_with fail
    refine HFew.out.mono ?_
    rintro e w2 ⟨⟨v2, qs, rfl, ho2, hsub⟩, hb2⟩
    obtain ⟨p2, c2, rfl, hp2⟩ := own_rowP ho2
    have HSub := Lib.hid hsub
    have hb := below_two hb1 hb2
    have hql : qs.length ≤ 1000 := by have := hsub.length_le; rw [ptsL_len] at this; omega
    have HQ : Hid (∀ v ∈ qs, 1 ≤ v.1 ∧ v.1 < a0 ∧ v.2 = valL a0 (a1 :: ms) v.1) := Lib.hid fun v hv => by
      obtain ⟨v1, v2, v3⟩ := ptsL_mem (hsub.subset hv)
      exact ⟨v1, by omega, v3⟩
    obtain ⟨LQ, hnq⟩ : ∃ n, qs.length = n := ⟨_, rfl⟩
    have HNQ := Lib.hid hnq
    by_cases hbad : a5 < 0 ∨ a0 ≤ a5 ∨ 12 < LQ
    · have HX : Hid (Calls Try.prog 30 #[.int .i64 a0, .slice p2 LQ c2, .int .i64 a5] w2 fun e w' => (∃ t, t ≠ 0 ∧ e = .returned (.tuple #[.slice none 0 0, .int .i64 t])) ∧ Below w2.heap.size w2 w') := Lib.hid (by
        by_cases h13 : 13 < qs.length
        · exact share_Explain_wrong a0 a5 p2 c2 qs w2 hp2 hnq (by omega) (few_long G.out.pr h13)
        · exact share_Explain_bad a0 a5 p2 c2 qs w2 hp2 hnq (few_wrong G.out.pr hnp hsub (by omega)) (fun v hv => by have := HQ.out v hv; omega) hbad)
      have key : a5 < 0 ∨ (¬ a5 < 0 ∧ a0 ≤ a5) ∨ (¬ a5 < 0 ∧ a5 < a0 ∧ decide (12 < (LQ : Int)) = true) := by
        by_cases h1 : a5 < 0
        · exact .inl h1
        · by_cases h2 : a0 ≤ a5
          · exact .inr (.inl ⟨h1, h2⟩)
          · exact .inr (.inr ⟨h1, by omega, decide_eq_true (by omega)⟩)
      rw [hnq] at hql ⊢
      clear hnq hsub ho2 hp2 hb1 hb2 hbad
      rcases key with q1 | ⟨q1, q2⟩ | ⟨q1, q2, q3⟩
      all_goals
        go_wp2_with fail
        refine HX.out.mono ?_
        rintro e w3 ⟨⟨t, ht, rfl⟩, hb3⟩
        have t1 : (t != 0) = true := by simpa using ht
        clear ht
        go_wp2
        go_ret
        exact ⟨rfl, below_two hb hb3⟩
    · obtain ⟨s1, s2, s3⟩ : 0 ≤ a5 ∧ a5 < a0 ∧ LQ ≤ 12 := by omega
      have HX := Lib.hid (share_Explain a0 a5 p2 c2 qs w2 hp2 hnq (few_wrong G.out.pr hnp hsub (by omega)) (fun v hv => by have := HQ.out v hv; omega) ⟨s1, s2⟩ s3)
      have HP2 := Lib.hid hp2
      rw [hnq] at hql ⊢
      have d1 : ¬ a5 < 0 := by omega
      have d2 : decide (12 < (LQ : Int)) = false := decide_eq_false (by omega)
      obtain ⟨N, hN⟩ : ∃ N : Nat, a0 - 1 = N := ⟨(a0 - 1).toNat, by omega⟩
      have HN := Lib.hid hN
      have gsp : ∀ T : List Int, T.length ≤ 12 → (∀ x ∈ T, 0 ≤ x ∧ x < a0) → GoodS a0 a5 T N := fun T hT hr => ⟨G.out.pr, hT, by
        rw [List.any_eq_false]
        intro x hx
        have : 0 ≤ x ∧ x < a0 := by
          rcases List.mem_cons.1 hx with rfl | hx
          · exact ⟨s1, s2⟩
          · exact hr x hx
        simp [badB]; omega, by omega, by omega⟩
      have GSP := Lib.hid gsp
      have hN251 : N ≤ 251 := by omega
      clear hnq hsub ho2 hp2 hb1 hb2 hbad hN gsp
      go_wp2_with fail
      refine HX.out.mono ?_
      rintro e w3 ⟨⟨ar, cr, R, rfl, hR, hRl, hRr, hRv⟩, hb3⟩
      have HS2 := Lib.hid (share_Split a0 a5 N ar cr R w3 (GSP.out R (by omega) hRr) hR hRl)
      rw [← HN.out] at HS2
      have HRr := Lib.hid hRr
      have HRv := Lib.hid hRv
      have HRl := Lib.hid hRl
      have HRR := Lib.hid hR
      have f1 : IntKind.i64.wrap (a0 - 1) = a0 - 1 := IntWalk.i64_in _ (by omega)
      have n1 : ((N : Int) != a0 - 1) = false := by have := HN.out; simp; omega
      clear hR hRl hRr hRv
      go_wp2_with fail
      refine HS2.out.mono ?_
      rintro e w4 ⟨⟨v4, rfl, ho4⟩, hb4⟩
      rw [ptsL_flat] at ho4
      obtain ⟨p4, c4, rfl, hp4⟩ := own_rowP (pts := ptsL a0 (a5 :: R) N) (by rw [ptsL_len]; exact ho4)
      rw [ptsL_len]
      have hbt := below_two hb3 hb4
      have HP2' := Lib.hid (HP2.out.below hbt (Nat.le_refl _))
      have HP4 := Lib.hid hp4
      have hba := below_two hb hbt
      clear ho4 hp4 hb3
      go_wp2
      go_loopw [98] (fun i wr => ∃ I : Nat, i = .int .i64 I ∧ I ≤ LQ ∧ Below w4.heap.size w4 wr) (fun i _ => LQ - (intOf i).toNat)
      case atStart => exact ⟨0, rfl, Nat.zero_le _, Below.refl _ _⟩
      case round =>
        obtain ⟨I, rfl, hI, hbI⟩ := hrel
        by_cases hlt : I < LQ
        · obtain ⟨v, hv⟩ : ∃ v, qs[I]? = some v := ⟨_, List.getElem?_eq_getElem (by rw [HNQ.out]; omega)⟩
          have hvq := HQ.out _ (List.mem_of_getElem? hv)
          have hval := HRv.out _ (List.mem_of_getElem? hv)
          obtain ⟨b, o, rfl, hcell⟩ := (HP2'.out.below hbI (Nat.le_refl _)).shape (by rw [HNQ.out]; omega)
          obtain ⟨x, y⟩ := v
          obtain ⟨kx, ky⟩ := hcell I (x, y) hv
          simp only at kx ky hvq hval
          obtain ⟨x1, x2, -⟩ := hvq
          obtain ⟨X, rfl⟩ := int_pred x1
          have hXN : X < N := by have := HN.out; omega
          obtain ⟨b4, o4, rfl, hcell4⟩ := (HP4.out.below hbI (Nat.le_refl _)).shape (by rw [ptsL_len]; omega)
          obtain ⟨lx, ly⟩ := hcell4 X _ (ptsL_at a0 (a5 :: R) N X hXN)
          simp only [hval] at lx ly
          have hz := hbI.size
          have g1 : decide ((X : Int) + 1 < 1) = false := decide_eq_false (by omega)
          have g2 : decide (a0 ≤ (X : Int) + 1) = false := decide_eq_false (by omega)
          have fw : IntKind.i64.wrap ((X : Int) + 1 - 1) = (X : Int) + 1 - 1 := IntWalk.i64_in _ (by omega)
          have i1 : (0 : Int) ≤ X := by omega
          have i2 : (X : Int) < N := by omega
          have nb := World.block_lt_of_cell? wr _ lx
          simp only at nb
          have n1 : ¬ b4 = wr.heap.size := by omega
          have n2 : ¬ wr.heap.size = b4 := by omega
          have HbI := Lib.hid hbI
          clear hcell hcell4 hv hval hbI
          go_wp2_with fail
          go_quiet (fail)
          go_wp2
          go_round
          case rel => exact ⟨I + 1, by go_num, by omega, below_drewN (HbI.out.alloc HbI.out.size _) _⟩
          case measure => simp [intOf]; omega
        · obtain rfl : I = LQ := by omega
          have hbw := below_two hba hbI
          by_cases hgl : len6 = I
          · subst hgl
            by_cases hg2 : ∀ x ∈ gs, 0 ≤ x ∧ x < a0
            · have HS3 := Lib.hid (share_Split a0 a5 N a6 cap6 gs wr (GSP.out gs (by rw [E6.out]; omega) hg2) (HR6.out.below hbw (Nat.le_refl _)) E6.out)
              rw [← HN.out] at HS3
              have HG2 := Lib.hid hg2
              clear hg2
              go_wp2_with fail
              refine HS3.out.mono ?_
              rintro e w5 ⟨⟨v5, rfl, ho5⟩, hb5⟩
              rw [ptsL_flat] at ho5
              obtain ⟨p5, c5, rfl, hp5⟩ := own_rowP (pts := ptsL a0 (a5 :: gs) N) (by rw [ptsL_len]; exact ho5)
              rw [ptsL_len]
              have HP5 := Lib.hid hp5
              have HP2n := Lib.hid ((HP2'.out.below hbI (Nat.le_refl _)).below hb5 (Nat.le_refl _))
              have HRn := Lib.hid (HRR.out.below (below_two (by assumption : Below w3.heap.size w3 w4) (below_two hbI hb5)) (Nat.le_refl _))
              have HR6n := Lib.hid (HR6.out.below (below_two hbw hb5) (Nat.le_refl _))
              have hbw5 := below_two hbw hb5
              clear ho5 hp5 hb5 hbI hbw
              go_wp2
              go_loopw [25] (fun i wr => ∃ I : Nat, i = .int .i64 I ∧ I ≤ len6 ∧ Below w5.heap.size w5 wr ∧ Hid (∀ (j : Nat) (v : Int × Int), j < I → qs[j]? = some v → valL a0 (a5 :: gs) v.1 = v.2)) (fun i _ => len6 - (intOf i).toNat)
              case atStart => exact ⟨0, rfl, Nat.zero_le _, Below.refl _ _, Lib.hid fun j v hj => absurd hj (Nat.not_lt_zero _)⟩
              case round =>
                obtain ⟨I, rfl, hI, hbI, HF⟩ := hrel
                by_cases hlt : I < len6
                · obtain ⟨v, hv⟩ : ∃ v, qs[I]? = some v := ⟨_, List.getElem?_eq_getElem (by rw [HNQ.out]; omega)⟩
                  have hvq := HQ.out _ (List.mem_of_getElem? hv)
                  obtain ⟨b, o, rfl, hcell⟩ := (HP2n.out.below hbI (Nat.le_refl _)).shape (by rw [HNQ.out]; omega)
                  have HV := Lib.hid hv
                  obtain ⟨x, y⟩ := v
                  obtain ⟨kx, ky⟩ := hcell I (x, y) hv
                  simp only at kx ky hvq
                  obtain ⟨x1, x2, -⟩ := hvq
                  obtain ⟨X, rfl⟩ := int_pred x1
                  have hXN : X < N := by have := HN.out; omega
                  obtain ⟨b4, o4, rfl, hcell4⟩ := (HP5.out.below hbI (Nat.le_refl _)).shape (by rw [ptsL_len]; omega)
                  obtain ⟨lx, ly⟩ := hcell4 X _ (ptsL_at a0 (a5 :: gs) N X hXN)
                  obtain ⟨z, hz'⟩ : ∃ z, valL a0 (a5 :: gs) ((X : Int) + 1) = z := ⟨_, rfl⟩
                  simp only [hz'] at lx ly
                  have HZ' := Lib.hid hz'
                  have hz := hbI.size
                  have fw : IntKind.i64.wrap ((X : Int) + 1 - 1) = (X : Int) + 1 - 1 := IntWalk.i64_in _ (by omega)
                  have i1 : (0 : Int) ≤ X := by omega
                  have i2 : (X : Int) < N := by omega
                  have i3 : (0 : Int) ≤ I := by omega
                  have i4 : (I : Int) < len6 := by omega
                  have HbI := Lib.hid hbI
                  clear hcell hcell4 hv hbI hz'
                  by_cases hzy : z = y
                  · subst hzy
                    go_wp2_with fail
                    go_quiet (fail)
                    go_wp2
                    go_round
                    case rel =>
                      refine ⟨I + 1, by go_num, by omega, below_drewN HbI.out _, Lib.hid fun j v hj hv => ?_⟩
                      by_cases e : j = I
                      · subst e; rw [HV.out] at hv; cases hv; exact HZ'.out
                      · exact HF.out j v (by omega) hv
                    case measure => simp [intOf]; omega
                  · have q1 : (z == y) = false := by simpa using hzy
                    go_wp2_with fail
                    go_quiet (fail)
                    go_wp2
                    go_ret
                    exact ⟨rfl, below_two hbw5 (below_drewN HbI.out _)⟩
                · obtain rfl : I = len6 := by omega
                  have hEq : gs = R := (explain_one HPR.out (by omega) ⟨s1, s2⟩ HRr.out HG2.out (by rw [HRl.out, E6.out]) (by rw [HNQ.out, HRl.out]) ((HSub.out.map _).nodup (ptsL_nodup a0 _ n)) (fun v hv => by have := HQ.out v hv; omega) HRv.out (fun v hv => by
                    obtain ⟨j, hj, rfl⟩ := List.mem_iff_getElem.1 hv
                    exact HF.out j _ (by rw [HNQ.out] at hj; exact hj) (List.getElem?_eq_getElem hj))).symm
                  have HLo := Lib.hid (ref_Longs a6 ar cap6 cr gs R wr (HR6n.out.below hbI (Nat.le_refl _)) (HRn.out.below hbI (Nat.le_refl _)) (by rw [E6.out]; omega) (by rw [HRl.out]; omega))
                  rw [decide_eq_true hEq, E6.out, HRl.out] at HLo
                  clear hEq
                  go_wp2_with fail
                  refine HLo.out.mono ?_
                  rintro e w6 ⟨rfl, hb6⟩
                  go_wp2
                  go_ret
                  exact ⟨rfl, below_two hbw5 (below_two hbI hb6)⟩
            · have HS3 := Lib.hid (share_Split_bad a0 a5 N a6 cap6 gs wr (fun g => hg2 fun x hx => g.all x (by simp [hx])) (HR6.out.below hbw (Nat.le_refl _)) E6.out (by omega))
              rw [← HN.out] at HS3
              clear hg2
              go_wp2_with fail
              refine HS3.out.mono ?_
              rintro e w5 ⟨⟨t, ht, rfl⟩, hb5⟩
              have q1 : (t == 0) = false := by simpa using ht
              have q2 : (t != 0) = true := by simpa using ht
              clear ht
              have hbw5 := below_two hbw hb5
              clear hb5 hbI hbw
              go_wp2
              go_loopw [25] (fun i wr => i = .int .i64 0 ∧ w5 = wr) (fun i _ => 1)
              case atStart => exact ⟨rfl, rfl⟩
              case round =>
                obtain ⟨rfl, rfl⟩ := hrel
                go_wp2
                all_goals
                  go_ret
                  exact ⟨rfl, hbw5⟩
          · have q1 : ((len6 : Int) != (I : Int)) = true := by simp; omega
            clear hgl
            go_wp2
            go_ret
            exact ⟨rfl, hbw⟩
  · have HS := Lib.hid (share_Split_bad a0 a1 a3 a2 cap2 ms w hg HR.out e2 m2)
    clear hg h2 e2 h6 e6
    go_enter Try.func10, Try.ntmps10
    go_wp2_with fail
    refine HS.out.mono ?_
    rintro e w1 ⟨⟨t, ht, rfl⟩, hb1⟩
    have q1 : (t == 0) = false := by simpa using ht
    have q2 : (t != 0) = true := by simpa using ht
    clear ht
    go_wp2
    go_ret
    exact ⟨rfl, hb1⟩
end Go.Proofs.Ytfgmnlphejpcaaa
