/- The walk of ShareAdds. -/
import Derived.Test.YtfgmnlphejpcaaaShM
import Derived.Test.YtfgmnlphejpcaaaAppS
import Derived.StillTailTactics
import Derived.BigQuiet
namespace Go.Proofs.Ytfgmnlphejpcaaa
open Go.RowKit Go.Maps
set_option linter.unusedVariables false
set_option linter.unusedSimpArgs false
set_option maxRecDepth 100000 in
set_option maxHeartbeats 6400000 in
theorem WShareAdds (a0 : Int) (a1 : Int) (a2 : Int) (a3 : Option Addr) (len3 cap3 : Nat) (z3 : List Int) (a4 : Option Addr) (len4 cap4 : Nat) (z4 : List Int) (a5 : Int) (w : World) (w0 : (Lit.int .i64 a0).wf = true) (w1 : (Lit.int .i64 a1).wf = true) (w2 : (Lit.int .i64 a2).wf = true) (w3 : IsRow .i64 w a3 len3 cap3 z3) (w4 : IsRow .i64 w a4 len4 cap4 z4) (w5 : (Lit.int .i64 a5).wf = true) :
    Calls Try.prog 8 #[.int .i64 a0, .int .i64 a1, .int .i64 a2, .slice a3 len3 cap3, .slice a4 len4 cap4, .int .i64 a5] w fun e w' => e = .returned (.bool true) ∧ Below w.heap.size w w' := by
  obtain ⟨ms, e3, h3, _, m3⟩ := w3.longs
  obtain ⟨ks, e4, h4, _, m4⟩ := w4.longs
  clear w0 w1 w2 w3 w4 w5 z3 z4
  unfold maxLen at m3 m4
  have HR3 := Lib.hid h3
  have HR4 := Lib.hid h4
  have E3 := Lib.hid e3
  have E4 := Lib.hid e4
  by_cases hg1 : GoodS a0 a1 ms a5
  · have G1 := Lib.hid hg1
    have hn0 := hg1.n0
    have hnp := hg1.np
    have hl3 : len3 ≤ 12 := by rw [← e3]; exact hg1.len
    obtain ⟨hp1, hp2, _⟩ := primeE_zero hg1.pr
    have hs1 := hg1.all a1 (by simp)
    obtain ⟨n, rfl⟩ := Int.eq_ofNat_of_zero_le hn0
    have HS1 := Lib.hid (share_Split a0 a1 n a3 cap3 ms w hg1 HR3.out e3)
    by_cases hg2 : GoodS a0 a2 ks n
    · have G2 := Lib.hid hg2
      have hs2 := hg2.all a2 (by simp)
      have HS2 := Lib.hid fun w' (h : RowL w' a4 cap4 ks) => share_Split a0 a2 n a4 cap4 ks w' hg2 h e4
      by_cases hlen : len3 = len4
      · subst hlen
        have HZ := Lib.hid fun w' (a : Option Addr) (c : Nat) (h : RowL w' a c (addP a0 ms ks)) => share_Split a0 ((a1 + a2) % a0) n a c (addP a0 ms ks) w' (L := len3) (goodS_sum hg1 hg2 (by rw [e3, e4])) h (by rw [addP_len _ _ _ (by rw [e3, e4]), e3])
        have HLaw := Lib.hid fun x => share_law (p := a0) a1 a2 (m := ms) (k := ks) (by rw [e3, e4]) x
        have HTk := Lib.hid fun I x y => addP_take (p := a0) (a := ms) (b := ks) (I := I) (x := x) (y := y)
        have HZL : Hid ((addP a0 ms ks).length = len3) := Lib.hid (by rw [addP_len _ _ _ (by rw [e3, e4]), e3])
        have HB1 := Lib.hid fun x (h : x ∈ ms) => hg1.all x (by simp [h])
        have HB2 := Lib.hid fun x (h : x ∈ ks) => hg2.all x (by simp [h])
        have HV := Lib.hid fun (l : List Int) (x : Int) => horT_rng (x := x) (show 1 ≤ a0 by omega) (backL l)
        have hr0 := Int.emod_nonneg (a1 + a2) (show a0 ≠ 0 by omega)
        obtain ⟨i0, hi, hz0, hz1, hz2⟩ := info_parts long_info
        have hu : Try.prog.underlying 22 = some (.slice 2) := by kernel_rfl
        have q0 : (a0 == 0) = false := by simp; omega
        have q1 : ¬ a0 = 0 := by omega
        obtain ⟨s1, s2⟩ := hs1
        obtain ⟨s3, s4⟩ := hs2
        clear hg1 hg2 h3 h4 e3 e4 hn0
        go_enter Try.func8, Try.ntmps8
        go_wp2_with fail
        refine HS1.out.mono ?_
        rintro e w1 ⟨⟨v1, rfl, ho1⟩, hb1⟩
        obtain ⟨p1, c1, rfl, hp1'⟩ := own_pts ho1
        go_wp2_with fail
        refine (HS2.out _ (HR4.out.below hb1 (Nat.le_refl _))).mono ?_
        rintro e w2 ⟨⟨v2, rfl, ho2⟩, hb2⟩
        obtain ⟨p2, c2, rfl, hp2'⟩ := own_pts ho2
        have HP1 := Lib.hid (hp1'.below hb2 (Nat.le_refl _))
        have HP2 := Lib.hid hp2'
        have hb := below_two hb1 hb2
        have HR32 := Lib.hid (HR3.out.below hb (Nat.le_refl _))
        have HR42 := Lib.hid (HR4.out.below hb (Nat.le_refl _))
        clear ho1 ho2 hp1' hp2' hb1 hb2
        go_wp2
        go_loopw [18, 17] (fun i v wr => ∃ I : Nat, i = .int .i64 I ∧ I ≤ len3 ∧ Below w2.heap.size w2 wr ∧ wr.ownsRow w2.heap.size 2 1 v I (inV ((addP a0 ms ks).take I))) (fun i _ _ => len3 - (intOf i).toNat)
        case atStart => exact ⟨0, rfl, Nat.zero_le _, Below.refl _ _, World.ownsRow_nil _ _ _ _⟩
        case round =>
          obtain ⟨I, rfl, hI, hbI, hr⟩ := hrel
          by_cases hlt : I < len3
          · obtain ⟨x, hx⟩ : ∃ x, ms[I]? = some x := ⟨_, List.getElem?_eq_getElem (by rw [E3.out]; exact hlt)⟩
            obtain ⟨y, hy⟩ : ∃ y, ks[I]? = some y := ⟨_, List.getElem?_eq_getElem (by rw [E4.out]; exact hlt)⟩
            obtain ⟨b1, o1, rfl, hcell1⟩ := (HR32.out.below hbI (Nat.le_refl _)).shape (by rw [E3.out]; omega)
            obtain ⟨b2, o2, rfl, hcell2⟩ := (HR42.out.below hbI (Nat.le_refl _)).shape (by rw [E4.out]; omega)
            have kx := hcell1 I x hx
            have ky := hcell2 I y hy
            obtain ⟨x1, x2⟩ := HB1.out x (List.mem_of_getElem? hx)
            obtain ⟨y1, y2⟩ := HB2.out y (List.mem_of_getElem? hy)
            have HTI := Lib.hid (HTk.out I x y hx hy)
            have z5 := hbI.size
            have rr := Int.emod_nonneg (x + y) (show a0 ≠ 0 by omega)
            have fw : IntKind.i64.wrap (x + y) = x + y := IntWalk.i64_in _ (by omega)
            have ft : (x + y).tmod a0 = (x + y) % a0 := Int.tmod_eq_emod_of_nonneg (by omega)
            clear hcell1 hcell2 hx hy
            go_wp2_with fail
            refine wp_region_D (S := (fun W : World => Below wr.heap.size wr W)) (fun j => j != 13) (by kernel_rfl) (Below.refl _ _).drew (fun hHeld => ?_)
            simp only [List.size_toArray, List.length_cons, List.length_nil, Nat.reduceAdd, Array.replicate_succ, Array.replicate_zero, List.push_toArray, List.append_toArray, List.nil_append, List.cons_append]
            refine WD_free (i := 0) (oi := _) (v := ?_) rfl (by kernel_rfl) (fun _ _ _ h => h) (Or.inl ⟨by rfl, ?_⟩) ?_
            rotate_left
            · (intro W hS; (try dsimp only at hS); clear hS; go_simp; with_reducible rfl)
            try simp only [Act.put, List.getElem_toArray, List.getElem_cons_succ, List.getElem_cons_zero, List.setIfInBounds_toArray, List.set_cons_zero, List.set_cons_succ]
            refine WD_free (i := 1) (oi := _) (v := ?_) rfl (by kernel_rfl) (fun _ _ _ h => h) (Or.inl ⟨by rfl, ?_⟩) ?_
            rotate_left
            · (intro W hS; (try dsimp only at hS); clear hS; go_simp; with_reducible rfl)
            try simp only [Act.put, List.getElem_toArray, List.getElem_cons_succ, List.getElem_cons_zero, List.setIfInBounds_toArray, List.set_cons_zero, List.set_cons_succ]
            refine WD_free (i := 2) (oi := _) (v := ?_) rfl (by kernel_rfl) (fun _ _ _ h => h) (Or.inl ⟨by rfl, ?_⟩) ?_
            rotate_left
            · (intro W hS; (try dsimp only at hS); clear hS; go_simp; with_reducible rfl)
            try simp only [Act.put, List.getElem_toArray, List.getElem_cons_succ, List.getElem_cons_zero, List.setIfInBounds_toArray, List.set_cons_zero, List.set_cons_succ]
            refine WD_free (i := 3) (oi := _) (v := ?_) rfl (by kernel_rfl) (fun _ _ _ h => h) (Or.inl ⟨by rfl, ?_⟩) ?_
            rotate_left
            · (intro W hS; (try dsimp only at hS); clear hS; go_simp; with_reducible rfl)
            try simp only [Act.put, List.getElem_toArray, List.getElem_cons_succ, List.getElem_cons_zero, List.setIfInBounds_toArray, List.set_cons_zero, List.set_cons_succ]
            refine WD_take (i := 4) (oi := _) (v := ?_) rfl (by kernel_rfl) (fun _ _ _ h => h) (Or.inl ⟨by rfl, ?_⟩) (by assumption) ?_
            rotate_left
            · (intro W hS; (try dsimp only at hS); have kk := (hS.cell (p := ⟨b1, o1 + I, none⟩) (World.block_lt_of_cell? wr _ kx)).trans kx; clear hS; go_simp; with_reducible rfl)
            try simp only [Act.put, List.getElem_toArray, List.getElem_cons_succ, List.getElem_cons_zero, List.setIfInBounds_toArray, List.set_cons_zero, List.set_cons_succ]
            refine WD_free (i := 5) (oi := _) (v := ?_) rfl (by kernel_rfl) (fun _ _ _ h => h) (Or.inl ⟨by rfl, ?_⟩) ?_
            rotate_left
            · (intro W hS; (try dsimp only at hS); clear hS; go_simp; with_reducible rfl)
            try simp only [Act.put, List.getElem_toArray, List.getElem_cons_succ, List.getElem_cons_zero, List.setIfInBounds_toArray, List.set_cons_zero, List.set_cons_succ]
            refine WD_free (i := 6) (oi := _) (v := ?_) rfl (by kernel_rfl) (fun _ _ _ h => h) (Or.inl ⟨by rfl, ?_⟩) ?_
            rotate_left
            · (intro W hS; (try dsimp only at hS); clear hS; go_simp; with_reducible rfl)
            try simp only [Act.put, List.getElem_toArray, List.getElem_cons_succ, List.getElem_cons_zero, List.setIfInBounds_toArray, List.set_cons_zero, List.set_cons_succ]
            refine WD_free (i := 7) (oi := _) (v := ?_) rfl (by kernel_rfl) (fun _ _ _ h => h) (Or.inl ⟨by rfl, ?_⟩) ?_
            rotate_left
            · (intro W hS; (try dsimp only at hS); clear hS; go_simp; with_reducible rfl)
            try simp only [Act.put, List.getElem_toArray, List.getElem_cons_succ, List.getElem_cons_zero, List.setIfInBounds_toArray, List.set_cons_zero, List.set_cons_succ]
            refine WD_take (i := 8) (oi := _) (v := ?_) rfl (by kernel_rfl) (fun _ _ _ h => h) (Or.inl ⟨by rfl, ?_⟩) (by assumption) ?_
            rotate_left
            · (intro W hS; (try dsimp only at hS); have kk := (hS.cell (p := ⟨b2, o2 + I, none⟩) (World.block_lt_of_cell? wr _ ky)).trans ky; clear hS; go_simp; with_reducible rfl)
            try simp only [Act.put, List.getElem_toArray, List.getElem_cons_succ, List.getElem_cons_zero, List.setIfInBounds_toArray, List.set_cons_zero, List.set_cons_succ]
            refine WD_free (i := 9) (oi := _) (v := ?_) rfl (by kernel_rfl) (fun _ _ _ h => h) (Or.inl ⟨by rfl, ?_⟩) ?_
            rotate_left
            · (intro W hS; (try dsimp only at hS); clear hS; go_simp; with_reducible rfl)
            try simp only [Act.put, List.getElem_toArray, List.getElem_cons_succ, List.getElem_cons_zero, List.setIfInBounds_toArray, List.set_cons_zero, List.set_cons_succ]
            refine WD_free (i := 10) (oi := _) (v := ?_) rfl (by kernel_rfl) (fun _ _ _ h => h) (Or.inl ⟨by rfl, ?_⟩) ?_
            rotate_left
            · (intro W hS; (try dsimp only at hS); clear hS; go_simp; with_reducible rfl)
            try simp only [Act.put, List.getElem_toArray, List.getElem_cons_succ, List.getElem_cons_zero, List.setIfInBounds_toArray, List.set_cons_zero, List.set_cons_succ]
            refine WD_free (i := 11) (oi := _) (v := ?_) rfl (by kernel_rfl) (fun _ _ _ h => h) (Or.inl ⟨by rfl, ?_⟩) ?_
            rotate_left
            · (intro W hS; (try dsimp only at hS); clear hS; go_simp; with_reducible rfl)
            try simp only [Act.put, List.getElem_toArray, List.getElem_cons_succ, List.getElem_cons_zero, List.setIfInBounds_toArray, List.set_cons_zero, List.set_cons_succ]
            refine WD_step (i := 12) (o := _) rfl (by kernel_rfl) (fun K hK => ?_)
            go_simp
            replace hHeld : Below wr.heap.size wr (wr.alloc (.cells #[.int .i64 ((x + y) % a0)] 2)).drew := ((Below.refl _ _).alloc (Nat.le_refl _) _).drew
            refine hK.out _ _ (fun _ _ => hHeld) ?_
            clear hK K
            try simp only [Act.put, List.getElem_toArray, List.getElem_cons_succ, List.getElem_cons_zero, List.setIfInBounds_toArray, List.set_cons_zero, List.set_cons_succ]
            refine WD_step (i := 13) (o := _) rfl (by kernel_rfl) (fun K hK => ?_)
            refine step_append_own rfl (.tmp 64) (.tmp 76) 22 rfl w2.heap.size 2 i0 (.int .i64 0) 1 8 hu hi hz0 hz1 hz2 rfl (by decide) _ _ _ rfl (hr.alloc _).drew ⟨wr.heap.size, 0, none⟩ 1 1 [.int .i64 ((x + y) % a0)] rfl rfl (fun j u hj => cell_one_new wr (.int .i64 ((x + y) % a0)) 2 j u hj) (by simp [Value.oneCell']) (by unfold maxLen; omega) (by omega) (by simp; omega) ?_
            intro v' w5 hown' hg2
            refine hK.out _ _ (fun h => by cases h) ?_
            clear hK K
            try simp only [Act.put, List.getElem_toArray, List.getElem_cons_succ, List.getElem_cons_zero, List.setIfInBounds_toArray, List.set_cons_zero, List.set_cons_succ]
            refine WD_free (i := 14) (oi := _) (v := ?_) rfl (by kernel_rfl) (fun _ _ _ h => h) (Or.inl ⟨by rfl, ?_⟩) ?_
            rotate_left
            · (intro W hS; (try dsimp only at hS); clear hS; go_simp; with_reducible rfl)
            try simp only [Act.put, List.getElem_toArray, List.getElem_cons_succ, List.getElem_cons_zero, List.setIfInBounds_toArray, List.set_cons_zero, List.set_cons_succ]
            refine WD_done (by kernel_rfl) ?_ _
            -- END REGION
            have s2 := hg2.size
            simp at s2
            go_wp2
            go_round
            case rel =>
              refine ⟨I + 1, by go_num, by omega, ?_, ?_⟩
              · exact (hbI.alloc (by omega) _).drew.grown hg2 (by simp; omega) (fun j hj => (hr.lt j hj).1)
              · rw [HTI.out, inV_append]; exact hown'
            case measure => simp [intOf]; omega
          · obtain rfl : I = len3 := by omega
            have HT0 : Hid ((addP a0 ms ks).take I = addP a0 ms ks) := Lib.hid (by rw [← HZL.out, List.take_length])
            rw [HT0.out] at hr
            obtain ⟨a9, c9, rfl, hrow⟩ := own_rowL (xs := addP a0 ms ks) (by rw [HZL.out]; exact hr)
            have HZS := Lib.hid (HZ.out wr a9 c9 hrow)
            rw [HZL.out]
            clear hr hrow
            have HP12 := Lib.hid (HP1.out.below hbI (Nat.le_refl _))
            have HP22 := Lib.hid (HP2.out.below hbI (Nat.le_refl _))
            have hbw := below_two hb hbI
            go_wp2_with fail
            refine HZS.out.mono ?_
            rintro e w3 ⟨⟨v3, rfl, ho3⟩, hb3⟩
            obtain ⟨p3, c3, rfl, hp3⟩ := own_pts ho3
            have HP13 := Lib.hid (HP12.out.below hb3 (Nat.le_refl _))
            have HP23 := Lib.hid (HP22.out.below hb3 (Nat.le_refl _))
            have HP33 := Lib.hid hp3
            have hbw3 := below_two hbw hb3
            clear ho3 hp3 hb3 hbw hbI hb
            have A1 := Lib.hid fun I => ptsV_at a0 (a1 :: ms) I n
            have A2 := Lib.hid fun I => ptsV_at a0 (a2 :: ks) I n
            have A3 := Lib.hid fun I => ptsV_at a0 ((a1 + a2) % a0 :: addP a0 ms ks) I n
            go_wp2
            go_loopw [21] (fun i wr => ∃ I : Nat, i = .int .i64 I ∧ I ≤ n ∧ Below w3.heap.size w3 wr) (fun i _ => n - (intOf i).toNat)
            case atStart => exact ⟨0, rfl, Nat.zero_le _, Below.refl _ _⟩
            case round =>
              obtain ⟨I, rfl, hI, hbI⟩ := hrel
              by_cases hlt : I < n
              · obtain ⟨g1, rfl, hc1⟩ := (HP13.out.below hbI (Nat.le_refl _)) (by omega)
                obtain ⟨g2, rfl, hc2⟩ := (HP23.out.below hbI (Nat.le_refl _)) (by omega)
                obtain ⟨g3, rfl, hc3⟩ := (HP33.out.below hbI (Nat.le_refl _)) (by omega)
                have k1x := hc1 _ _ (A1.out I hlt).1
                have k1y := hc1 _ _ (A1.out I hlt).2
                have k2y := hc2 _ _ (A2.out I hlt).2
                have k3x := hc3 _ _ (A3.out I hlt).1
                have k3y := hc3 _ _ (A3.out I hlt).2
                rw [HLaw.out] at k3y
                obtain ⟨u1, u2⟩ := HV.out (a1 :: ms) ((I : Int) + 1)
                obtain ⟨v1, v2⟩ := HV.out (a2 :: ks) ((I : Int) + 1)
                rw [show horT a0 ((I : Int) + 1) (backL (a1 :: ms)) = valL a0 (a1 :: ms) ((I : Int) + 1) from rfl] at u1 u2
                rw [show horT a0 ((I : Int) + 1) (backL (a2 :: ks)) = valL a0 (a2 :: ks) ((I : Int) + 1) from rfl] at v1 v2
                obtain ⟨u, hu'⟩ : ∃ u, valL a0 (a1 :: ms) ((I : Int) + 1) = u := ⟨_, rfl⟩
                obtain ⟨v, hv'⟩ : ∃ u, valL a0 (a2 :: ks) ((I : Int) + 1) = u := ⟨_, rfl⟩
                rw [hu'] at u1 u2 k1y k3y
                rw [hv'] at v1 v2 k2y k3y
                have fw : IntKind.i64.wrap (u + v) = u + v := IntWalk.i64_in _ (by omega)
                have ft : (u + v).tmod a0 = (u + v) % a0 := Int.tmod_eq_emod_of_nonneg (by omega)
                have t1 : ((u + v) % a0 != (u + v) % a0) = false := by simp
                have t2 : ((I : Int) + 1 != (I : Int) + 1) = false := by simp
                clear hc1 hc2 hc3 hu' hv'
                go_wp2_with fail
                go_quiet (fail)
                go_wp2
                go_round
                case rel => exact ⟨I + 1, by go_num, by omega, below_drewN hbI _⟩
                case measure => simp [intOf]; omega
              · obtain rfl : I = n := by omega
                go_wp2
                go_ret
                exact ⟨rfl, below_two hbw3 hbI⟩
      · have q2 : ((len3 : Int) == (len4 : Int)) = false := by simp; omega
        have q3 : ((len3 : Int) != (len4 : Int)) = true := by simp; omega
        clear hg1 hg2 hlen hs1 hs2 h3 h4 e3 e4
        go_enter Try.func8, Try.ntmps8
        go_wp2_with fail
        refine HS1.out.mono ?_
        rintro e w1 ⟨⟨v1, rfl, _⟩, hb1⟩
        go_wp2_with fail
        refine (HS2.out _ (HR4.out.below hb1 (Nat.le_refl _))).mono ?_
        rintro e w2 ⟨⟨v2, rfl, _⟩, hb2⟩
        go_wp2
        go_ret
        exact ⟨rfl, below_two hb1 hb2⟩
    · have HS2 := Lib.hid fun w' (h : RowL w' a4 cap4 ks) => share_Split_bad a0 a2 n a4 cap4 ks w' hg2 h e4 m4
      clear hg1 hg2 hs1 h3 h4 e3 e4
      go_enter Try.func8, Try.ntmps8
      go_wp2_with fail
      refine HS1.out.mono ?_
      rintro e w1 ⟨⟨v1, rfl, _⟩, hb1⟩
      go_wp2_with fail
      refine (HS2.out _ (HR4.out.below hb1 (Nat.le_refl _))).mono ?_
      rintro e w2 ⟨⟨t, ht, rfl⟩, hb2⟩
      have q1 : (t == 0) = false := by simpa using ht
      have q2 : (t != 0) = true := by simpa using ht
      clear ht
      go_wp2
      go_ret
      exact ⟨rfl, below_two hb1 hb2⟩
  · have HS1 := Lib.hid (share_Split_bad a0 a1 a5 a3 cap3 ms w hg1 HR3.out e3 m3)
    clear hg1 h3 e3
    have HX : Hid (∀ w' (h : RowL w' a4 cap4 ks), Calls Try.prog 27 #[.int .i64 a0, .int .i64 a2, .slice a4 len4 cap4, .int .i64 a5] w' fun e w'' => (∃ v t, e = .returned (.tuple #[v, .int .i64 t])) ∧ Below w'.heap.size w' w'') := Lib.hid fun w' h => by
      by_cases hg2 : GoodS a0 a2 ks a5
      · obtain ⟨n, rfl⟩ := Int.eq_ofNat_of_zero_le hg2.n0
        exact (share_Split a0 a2 n a4 cap4 ks w' hg2 h e4).mono fun e w'' ⟨⟨v, he, _⟩, hb⟩ => ⟨⟨v, 0, he⟩, hb⟩
      · exact (share_Split_bad a0 a2 a5 a4 cap4 ks w' hg2 h e4 m4).mono fun e w'' ⟨⟨t, _, he⟩, hb⟩ => ⟨⟨_, t, he⟩, hb⟩
    clear h4 e4
    go_enter Try.func8, Try.ntmps8
    go_wp2_with fail
    refine HS1.out.mono ?_
    rintro e w1 ⟨⟨t, ht, rfl⟩, hb1⟩
    have q1 : (t == 0) = false := by simpa using ht
    have q2 : (t != 0) = true := by simpa using ht
    clear ht
    go_wp2_with fail
    refine (HX.out _ (HR4.out.below hb1 (Nat.le_refl _))).mono ?_
    rintro e w2 ⟨⟨v2, t2, rfl⟩, hb2⟩
    go_wp2
    go_ret
    exact ⟨rfl, below_two hb1 hb2⟩
end Go.Proofs.Ytfgmnlphejpcaaa
