/- The walk of PartsEnough. -/
import Derived.Test.YtfgmnlphejpcaaaMgC
import Derived.Test.YtfgmnlphejpcaaaRJ
namespace Go.Proofs.Ytfgmnlphejpcaaa
open Go.RowKit Go.Maps
set_option linter.unusedVariables false
set_option linter.unusedSimpArgs false
theorem wf32 {a : Int} (h : (Lit.int .u32 a).wf = true) : 0 ≤ a ∧ a ≤ 4294967295 := by
  simpa [Lit.wf, IntKind.min, IntKind.max, IntKind.signed, go_sem] using h
theorem rowL_at0 {W : World} {g c : Nat} {xs : List Int} (h : RowL W (some ⟨g, 0, none⟩) c xs) {i : Nat} {x : Int} (hx : xs[i]? = some x) : W.cell? ⟨g, i, none⟩ = some (.int .i64 x) := by
  have := h.2.1 _ rfl i (.int .i64 x) (by simp [inV, hx])
  rwa [add_at] at this
set_option maxRecDepth 20000 in
set_option maxHeartbeats 6400000 in
theorem WPartsEnough (a0 : Int) (a1 : Int) (a2 : Option Addr) (len2 cap2 : Nat) (z2 : List Ga) (a3 : Option Addr) (len3 cap3 : Nat) (z3 : List Int) (a4 : Option Addr) (len4 cap4 : Nat) (z4 : List Int) (a5 : Int) (w : World) (w0 : (Lit.int .i64 a0).wf = true) (w1 : (Lit.int .i64 a1).wf = true) (w2 : IsGates w a2 len2 cap2 z2) (w3 : IsRow .i64 w a3 len3 cap3 z3) (s3 : len3 * 8 ≤ 140737488355328) (w4 : IsRow .i64 w a4 len4 cap4 z4) (s4 : len4 * 8 ≤ 140737488355328) (w5 : (Lit.int .u32 a5).wf = true) :
    Calls Try.prog 11 #[.int .i64 a0, .int .i64 a1, .slice a2 len2 cap2, .slice a3 len3 cap3, .slice a4 len4 cap4, .int .u32 a5] w fun e w' => e = .returned (.bool true) ∧ Below w.heap.size w w' := by
  obtain ⟨gl, gm, gr, -⟩ := w2
  obtain ⟨ins, il, ir, -, -⟩ := w3.longs
  obtain ⟨R, rl, rr, -, -⟩ := w4.longs
  obtain ⟨mk1, mk2⟩ := wf32 w5
  clear w0 w1 w3 w4 w5 z3 z4
  subst gl il rl
  have l2 : ins.length ≤ 4611686018427387904 := by omega
  have l3 : R.length ≤ 4611686018427387904 := by omega
  clear s3 s4
  by_cases hG : GoodG a0 z2 ins
  · have HCl := Lib.hid (parts_Clear a0 a2 a3 cap2 cap3 z2 ins w gr ir hG)
    by_cases hP : partiesB a0 a1 = true ∧ R.any (badB a0) = false
    · have hT := hP.1
      simp only [partiesB, Bool.and_eq_true, decide_eq_true_eq] at hT
      obtain ⟨t, rfl⟩ := Int.eq_ofNat_of_zero_le hT.1.1
      obtain ⟨n, hn⟩ : ∃ n, n = 2 * t + 1 := ⟨_, rfl⟩
      have HPl := Lib.hid fun W (hb : Below w.heap.size w W) => parts_Play a0 t n a2 a3 a4 cap2 cap3 cap4 z2 ins R W (gr.below hb (Nat.le_refl _)) (ir.below hb (Nat.le_refl _)) (rr.below hb (Nat.le_refl _)) hG hP.1 hP.2 l3 hn
      have hpp := primeE_zero hG.pr
      have hp2 := hpp.2.1
      have hp1 := hpp.1
      have hn9 : n ≤ 9 := by omega
      have hnp : (n : Int) < a0 := by omega
      have HFew := Lib.hid fun (f : Int → Int) a c W (h : RowP W a c (ptN f a0 n)) => keep_few a5 a c (ptN f a0 n) W h (ptN_len f a0 n) (by omega) mk1 mk2
      have HJo := Lib.hid fun (f : Int → Int) (qs : List (Int × Int)) (L : Nat) a c W (hf : PF a0 (t + 1) f) (hs : qs.Sublist (ptN f a0 n)) (hL : qs.length = L) (hl : t < L) (h : RowP W a c qs) => ref_Join a0 f a c L qs W hL h hpp.2.2 hpp.1 hpp.2.1
        (by have := hs.length_le; rw [ptN_len] at this; omega) (fun v hv => by have := ptN_mem (hs.subset hv); omega) ((hs.map (·.1)).nodup (by rw [ptN_fst]; exact xsN_nodup n)) (fun v hv => (ptN_mem (hs.subset hv)).2.2) (hf.mono (by omega))
      have HLn := Lib.hid (clearTo_len (p := a0) (ins := ins) (Nat.le_refl z2.length))
      have hl1 := hG.lg
      have hn1 : 0 < n := by omega
      obtain ⟨i0, hi, hz0, hz1, hz2⟩ := info_parts point_info
      have hu : Try.prog.underlying 39 = some (.slice 43) := by kernel_rfl
      have HF1 : Hid (IntKind.i64.wrap (2 * (t : Int)) = 2 * (t : Int)) := Lib.hid (IntWalk.i64_in _ (by omega))
      have HF2 : Hid (IntKind.i64.wrap (2 * (t : Int) + 1) = (n : Int)) := Lib.hid (by rw [IntWalk.i64_in _ (by omega)]; omega)
      have ht4 : t ≤ 4 := by omega
      obtain ⟨m, hm⟩ : ∃ m, ins.length = m := ⟨_, rfl⟩
      obtain ⟨N, hN⟩ : ∃ m, z2.length = m := ⟨_, rfl⟩
      obtain ⟨RL, hRL⟩ : ∃ m, R.length = m := ⟨_, rfl⟩
      rw [hm, hN] at HCl
      rw [hm, hN, hRL] at HPl
      rw [hN] at HLn hl1
      rw [hm, hN, hRL]
      obtain ⟨cl, hcl⟩ : ∃ l, clearTo a0 ins z2 N = l := ⟨_, rfl⟩
      rw [hcl] at HCl HPl HLn
      clear gm gr ir rr l2 l3 hG hP hT hn hm hN hRL hcl hpp mk1 mk2
      go_enter Try.func11, Try.ntmps11
      go_wp2_with fail
      refine HCl.out.mono ?_
      rintro e w1 ⟨⟨v1, rfl, ho1⟩, hb1⟩
      obtain ⟨b1, d1, rfl, hc1⟩ := own_any ho1
      have HC1 := Lib.hid hc1
      clear ho1 hc1
      go_wp2_with fail
      refine (HPl.out _ hb1).mono ?_
      rintro e w2 ⟨⟨v2, vs, rfl, ho2, hs2⟩, hb2⟩
      obtain ⟨b2, d2, rfl, hc2⟩ := own_any ho2
      have HC2 := Lib.hid hc2
      have HS := Lib.hid hs2
      have HB1 := Lib.hid hb1
      have HB2 := Lib.hid hb2
      clear ho2 hc2 hs2 hb1 hb2
      go_wp2_with fail
      go_loopw [17] (fun iv wr => ∃ I : Nat, iv = .int .i64 I ∧ I ≤ N ∧ Hid (Below w2.heap.size w2 wr)) (fun iv _ => N - (intOf iv).toNat)
      case atStart => exact ⟨0, rfl, by omega, Lib.hid (Below.refl _ _)⟩
      case round =>
        obtain ⟨I, rfl, hI, HB⟩ := hrel
        by_cases hIe : I = N
        · subst hIe
          go_wp2_with fail
          go_ret
          exact ⟨rfl, below_two (below_two HB1.out HB2.out) HB.out⟩
        · have hI2 : (I : Int) < N := by omega
          have hI3 : I < N := by omega
          obtain ⟨f, v, q1, q2, q3, q4⟩ := HS.out.at' I (by rw [HLn.out]; exact hI3)
          obtain ⟨g, cc, rfl, hg, -, -, -⟩ := own_shape q4 hn1
          obtain ⟨go, rfl, kv0⟩ := HC2.out I _ q1
          have q3' : (inV cl)[I]? = some (.int .i64 (f 0 % a0)) := by rw [inV, List.getElem?_map, q3]; rfl
          obtain ⟨gc, rfl, kx0⟩ := HC1.out I _ q3'
          have kv := kept HB.out kv0 (World.block_lt_of_cell? _ _ kv0)
          have kx1 := kept HB2.out kx0 (World.block_lt_of_cell? _ _ kx0)
          have kx := kept HB.out kx1 (World.block_lt_of_cell? _ _ kx1)
          have HRow := Lib.hid ((row_ownL q4).below HB.out (Nat.le_refl _))
          have HPF := Lib.hid q2
          have hz0r := HB.out.size
          clear q1 q2 q3 q4 kv0 kx0 kx1 q3' hIe
          go_wp2_with fail
          obtain ⟨wo, rfl⟩ : ∃ wo : World, wo = wr := ⟨_, rfl⟩
          go_loopw [18, 19] (fun lv kv wr => ∃ K : Nat, kv = .int .i64 K ∧ K ≤ n ∧ Hid (Below wo.heap.size wo wr) ∧ Hid (wr.ownsRow wo.heap.size 43 2 lv K (flatI (ptN f a0 K)))) (fun _ kv _ => n - (intOf kv).toNat)
          case atStart => exact ⟨0, rfl, Nat.zero_le _, Lib.hid (Below.refl _ _), Lib.hid (World.ownsRow_nil _ _ _ _)⟩
          case round =>
            obtain ⟨K, rfl, hK, HBK, HOK⟩ := hrel
            have kv' := kept HBK.out kv (World.block_lt_of_cell? _ _ kv)
            have kx' := kept HBK.out kx (World.block_lt_of_cell? _ _ kx)
            by_cases hKe : K = n
            · subst hKe
              obtain ⟨aa, ca, rfl, hrp⟩ := own_rowP (pts := ptN f a0 K) (by rw [ptN_len]; exact HOK.out)
              rw [ptN_len]
              have HFw := Lib.hid (HFew.out f aa ca wr hrp)
              have f1 := HF1.out
              have f2 := HF2.out
              clear hrp kv kx
              go_wp2_with fail
              refine HFw.out.mono ?_
              rintro e W5 ⟨⟨v5, qs, rfl, ho5, hsub⟩, hb5⟩
              obtain ⟨p5, c5, rfl, hp5⟩ := own_rowP ho5
              clear f1 f2
              have kx5 := kept hb5 kx' (World.block_lt_of_cell? _ _ kx')
              obtain ⟨L, hL⟩ : ∃ L, qs.length = L := ⟨_, rfl⟩
              have hLn : L ≤ K := by have := hsub.length_le; rw [ptN_len] at this; omega
              obtain ⟨x, hx⟩ : ∃ x, f 0 % a0 = x := ⟨_, rfl⟩
              have HB5 := Lib.hid (below_two HBK.out hb5)
              rw [hx] at kx5
              by_cases hle : t < L
              · have hj := HJo.out f qs L p5 c5
                have HJ := Lib.hid fun W (h : RowP W p5 c5 qs) => hj W HPF.out hsub hL hle h
                have HQ := Lib.hid hp5
                rw [hx] at HJ
                rw [hL]
                have hle2 : (t : Int) < L := by omega
                clear hj ho5 hp5 hL hsub hx kv' kx' hb5
                go_wp2_with fail
                refine wp_region_D (S := (fun W : World => Below W5.heap.size W5 W)) (fun _ => true) (by kernel_rfl) (Below.refl _ _).drew (fun hHeld => ?_)
                simp only [List.size_toArray, List.length_cons, List.length_nil, Nat.reduceAdd, Array.replicate_succ, Array.replicate_zero, List.push_toArray, List.append_toArray, List.nil_append, List.cons_append]
                refine WD_free (i := 0) (oi := _) (v := ?_) rfl (by kernel_rfl) (fun _ _ _ h => h) (Or.inl ⟨by rfl, ?_⟩) ?_
                rotate_left
                · (intro W hS; (try dsimp only at hS); clear hS; go_simp; with_reducible rfl)
                try simp only [Act.put, List.getElem_toArray, List.getElem_cons_succ, List.getElem_cons_zero, List.setIfInBounds_toArray, List.set_cons_zero, List.set_cons_succ]
                refine WD_free (i := 1) (oi := _) (v := ?_) rfl (by kernel_rfl) (fun _ _ _ h => h) (Or.inl ⟨by rfl, ?_⟩) ?_
                rotate_left
                · (intro W hS; (try dsimp only at hS); clear hS; go_simp; with_reducible rfl)
                try simp only [Act.put, List.getElem_toArray, List.getElem_cons_succ, List.getElem_cons_zero, List.setIfInBounds_toArray, List.set_cons_zero, List.set_cons_succ]
                refine WD_free (i := 2) (oi := _) (v := ?_) rfl (by kernel_rfl) (fun _ _ _ h => h) (Or.inl ⟨by rfl, ?_⟩) ?_
                rotate_left
                · (intro W hS; (try dsimp only at hS); clear hS; go_simp; with_reducible rfl)
                try simp only [Act.put, List.getElem_toArray, List.getElem_cons_succ, List.getElem_cons_zero, List.setIfInBounds_toArray, List.set_cons_zero, List.set_cons_succ]
                refine WD_free (i := 3) (oi := _) (v := ?_) rfl (by kernel_rfl) (fun _ _ _ h => h) (Or.inl ⟨by rfl, ?_⟩) ?_
                rotate_left
                · (intro W hS; (try dsimp only at hS); clear hS; go_simp; with_reducible rfl)
                try simp only [Act.put, List.getElem_toArray, List.getElem_cons_succ, List.getElem_cons_zero, List.setIfInBounds_toArray, List.set_cons_zero, List.set_cons_succ]
                refine WD_free (i := 4) (oi := _) (v := ?_) rfl (by kernel_rfl) (fun _ _ _ h => h) (Or.inl ⟨by rfl, ?_⟩) ?_
                rotate_left
                · (intro W hS; (try dsimp only at hS); clear hS; go_simp; with_reducible rfl)
                try simp only [Act.put, List.getElem_toArray, List.getElem_cons_succ, List.getElem_cons_zero, List.setIfInBounds_toArray, List.set_cons_zero, List.set_cons_succ]
                refine WD_free (i := 5) (oi := _) (v := ?_) rfl (by kernel_rfl) (fun _ _ _ h => h) (Or.inl ⟨by rfl, ?_⟩) ?_
                rotate_left
                · (intro W hS; (try dsimp only at hS); clear hS; go_simp; with_reducible rfl)
                try simp only [Act.put, List.getElem_toArray, List.getElem_cons_succ, List.getElem_cons_zero, List.setIfInBounds_toArray, List.set_cons_zero, List.set_cons_succ]
                refine WD_free (i := 6) (oi := _) (v := ?_) rfl (by kernel_rfl) (fun _ _ _ h => h) (Or.inl ⟨by rfl, ?_⟩) ?_
                rotate_left
                · (intro W hS; (try dsimp only at hS); clear hS; go_simp; with_reducible rfl)
                try simp only [Act.put, List.getElem_toArray, List.getElem_cons_succ, List.getElem_cons_zero, List.setIfInBounds_toArray, List.set_cons_zero, List.set_cons_succ]
                refine WD_free (i := 8) (oi := _) (v := ?_) rfl (by kernel_rfl) (fun _ _ _ h => h) (Or.inl ⟨by rfl, ?_⟩) ?_
                rotate_left
                · (intro W hS; (try dsimp only at hS); clear hS; go_simp; with_reducible rfl)
                try simp only [Act.put, List.getElem_toArray, List.getElem_cons_succ, List.getElem_cons_zero, List.setIfInBounds_toArray, List.set_cons_zero, List.set_cons_succ]
                refine WD_free (i := 9) (oi := _) (v := ?_) rfl (by kernel_rfl) (fun _ _ _ h => h) (Or.inl ⟨by rfl, ?_⟩) ?_
                rotate_left
                · (intro W hS; (try dsimp only at hS); clear hS; go_simp; with_reducible rfl)
                try simp only [Act.put, List.getElem_toArray, List.getElem_cons_succ, List.getElem_cons_zero, List.setIfInBounds_toArray, List.set_cons_zero, List.set_cons_succ]
                refine WD_free (i := 10) (oi := _) (v := ?_) rfl (by kernel_rfl) (fun _ _ _ h => h) (Or.inl ⟨by rfl, ?_⟩) ?_
                rotate_left
                · (intro W hS; (try dsimp only at hS); clear hS; go_simp; with_reducible rfl)
                try simp only [Act.put, List.getElem_toArray, List.getElem_cons_succ, List.getElem_cons_zero, List.setIfInBounds_toArray, List.set_cons_zero, List.set_cons_succ]
                refine WD_take (i := 11) (oi := _) (v := ?_) rfl (by kernel_rfl) (fun _ _ _ h => h) (Or.inl ⟨by rfl, ?_⟩) (by assumption) ?_
                rotate_left
                · (intro W hS; (try dsimp only at hS); have kk := (hS.cell (p := ⟨gc, I, none⟩) (World.block_lt_of_cell? _ _ kx5)).trans kx5; clear hS; go_simp; with_reducible rfl)
                try simp only [Act.put, List.getElem_toArray, List.getElem_cons_succ, List.getElem_cons_zero, List.setIfInBounds_toArray, List.set_cons_zero, List.set_cons_succ]
                refine WD_step (i := 7) (o := _) rfl (by kernel_rfl) (fun K hK => ?_)
                go_simp
                refine (HJ.out _ (HQ.out.below hHeld (Nat.le_refl _))).mono ?_
                rintro e w6 ⟨rfl, hb6⟩
                go_wp2_with fail
                replace hHeld := below_two hHeld hb6
                refine hK.out _ _ (fun _ _ => hHeld) ?_
                clear hK K
                try simp only [Act.put, List.getElem_toArray, List.getElem_cons_succ, List.getElem_cons_zero, List.setIfInBounds_toArray, List.set_cons_zero, List.set_cons_succ]
                refine WD_free (i := 12) (oi := _) (v := ?_) rfl (by kernel_rfl) (fun _ _ _ h => h) (Or.inl ⟨by rfl, ?_⟩) ?_
                rotate_left
                · (intro W hS; (try dsimp only at hS); clear hS; go_simp; with_reducible rfl)
                try simp only [Act.put, List.getElem_toArray, List.getElem_cons_succ, List.getElem_cons_zero, List.setIfInBounds_toArray, List.set_cons_zero, List.set_cons_succ]
                refine WD_free (i := 13) (oi := _) (v := ?_) rfl (by kernel_rfl) (fun _ _ _ h => h) (Or.inl ⟨by rfl, ?_⟩) ?_
                rotate_left
                · (intro W hS; (try dsimp only at hS); clear hS; go_simp; with_reducible rfl)
                try simp only [Act.put, List.getElem_toArray, List.getElem_cons_succ, List.getElem_cons_zero, List.setIfInBounds_toArray, List.set_cons_zero, List.set_cons_succ]
                refine WD_done (by kernel_rfl) ?_ _

                have HB6 := Lib.hid (HB.out.trans ((below_two HB5.out hHeld).mono hz0r))
                clear hHeld
                go_wp2_with fail
                go_round
                case rel => exact ⟨I + 1, by go_num, by omega, HB6⟩
                case measure => simp [intOf]; omega
              · have hle2 : ¬ (t : Int) < L := by omega
                rw [hL]
                clear ho5 hp5 hL hsub hx kv' kx' hb5
                go_wp2_with fail
                refine wp_region_D (S := (fun W : World => Below W5.heap.size W5 W)) (fun _ => true) (by kernel_rfl) (Below.refl _ _).drew (fun hHeld => ?_)
                simp only [List.size_toArray, List.length_cons, List.length_nil, Nat.reduceAdd, Array.replicate_succ, Array.replicate_zero, List.push_toArray, List.append_toArray, List.nil_append, List.cons_append]
                refine WD_free (i := 0) (oi := _) (v := ?_) rfl (by kernel_rfl) (fun _ _ _ h => h) (Or.inl ⟨by rfl, ?_⟩) ?_
                rotate_left
                · (intro W hS; (try dsimp only at hS); clear hS; go_simp; with_reducible rfl)
                try simp only [Act.put, List.getElem_toArray, List.getElem_cons_succ, List.getElem_cons_zero, List.setIfInBounds_toArray, List.set_cons_zero, List.set_cons_succ]
                refine WD_free (i := 1) (oi := _) (v := ?_) rfl (by kernel_rfl) (fun _ _ _ h => h) (Or.inl ⟨by rfl, ?_⟩) ?_
                rotate_left
                · (intro W hS; (try dsimp only at hS); clear hS; go_simp; with_reducible rfl)
                try simp only [Act.put, List.getElem_toArray, List.getElem_cons_succ, List.getElem_cons_zero, List.setIfInBounds_toArray, List.set_cons_zero, List.set_cons_succ]
                refine WD_free (i := 2) (oi := _) (v := ?_) rfl (by kernel_rfl) (fun _ _ _ h => h) (Or.inl ⟨by rfl, ?_⟩) ?_
                rotate_left
                · (intro W hS; (try dsimp only at hS); clear hS; go_simp; with_reducible rfl)
                try simp only [Act.put, List.getElem_toArray, List.getElem_cons_succ, List.getElem_cons_zero, List.setIfInBounds_toArray, List.set_cons_zero, List.set_cons_succ]
                refine WD_free (i := 3) (oi := _) (v := ?_) rfl (by kernel_rfl) (fun _ _ _ h => h) (Or.inl ⟨by rfl, ?_⟩) ?_
                rotate_left
                · (intro W hS; (try dsimp only at hS); clear hS; go_simp; with_reducible rfl)
                try simp only [Act.put, List.getElem_toArray, List.getElem_cons_succ, List.getElem_cons_zero, List.setIfInBounds_toArray, List.set_cons_zero, List.set_cons_succ]
                refine WD_free (i := 4) (oi := _) (v := ?_) rfl (by kernel_rfl) (fun _ _ _ h => h) (Or.inl ⟨by rfl, ?_⟩) ?_
                rotate_left
                · (intro W hS; (try dsimp only at hS); clear hS; go_simp; with_reducible rfl)
                try simp only [Act.put, List.getElem_toArray, List.getElem_cons_succ, List.getElem_cons_zero, List.setIfInBounds_toArray, List.set_cons_zero, List.set_cons_succ]
                refine WD_free (i := 5) (oi := _) (v := undef) rfl (by kernel_rfl) (fun _ _ _ h => h) (Or.inr ⟨by kernel_rfl, rfl⟩) ?_
                try simp only [Act.put, List.getElem_toArray, List.getElem_cons_succ, List.getElem_cons_zero, List.setIfInBounds_toArray, List.set_cons_zero, List.set_cons_succ]
                refine WD_free (i := 6) (oi := _) (v := undef) rfl (by kernel_rfl) (fun _ _ _ h => h) (Or.inr ⟨by kernel_rfl, rfl⟩) ?_
                try simp only [Act.put, List.getElem_toArray, List.getElem_cons_succ, List.getElem_cons_zero, List.setIfInBounds_toArray, List.set_cons_zero, List.set_cons_succ]
                refine WD_free (i := 7) (oi := _) (v := undef) rfl (by kernel_rfl) (fun _ _ _ h => h) (Or.inr ⟨by kernel_rfl, rfl⟩) ?_
                try simp only [Act.put, List.getElem_toArray, List.getElem_cons_succ, List.getElem_cons_zero, List.setIfInBounds_toArray, List.set_cons_zero, List.set_cons_succ]
                refine WD_free (i := 8) (oi := _) (v := undef) rfl (by kernel_rfl) (fun _ _ _ h => h) (Or.inr ⟨by kernel_rfl, rfl⟩) ?_
                try simp only [Act.put, List.getElem_toArray, List.getElem_cons_succ, List.getElem_cons_zero, List.setIfInBounds_toArray, List.set_cons_zero, List.set_cons_succ]
                refine WD_free (i := 9) (oi := _) (v := undef) rfl (by kernel_rfl) (fun _ _ _ h => h) (Or.inr ⟨by kernel_rfl, rfl⟩) ?_
                try simp only [Act.put, List.getElem_toArray, List.getElem_cons_succ, List.getElem_cons_zero, List.setIfInBounds_toArray, List.set_cons_zero, List.set_cons_succ]
                refine WD_free (i := 10) (oi := _) (v := undef) rfl (by kernel_rfl) (fun _ _ _ h => h) (Or.inr ⟨by kernel_rfl, rfl⟩) ?_
                try simp only [Act.put, List.getElem_toArray, List.getElem_cons_succ, List.getElem_cons_zero, List.setIfInBounds_toArray, List.set_cons_zero, List.set_cons_succ]
                refine WD_free (i := 11) (oi := _) (v := undef) rfl (by kernel_rfl) (fun _ _ _ h => h) (Or.inr ⟨by kernel_rfl, rfl⟩) ?_
                try simp only [Act.put, List.getElem_toArray, List.getElem_cons_succ, List.getElem_cons_zero, List.setIfInBounds_toArray, List.set_cons_zero, List.set_cons_succ]
                refine WD_free (i := 12) (oi := _) (v := undef) rfl (by kernel_rfl) (fun _ _ _ h => h) (Or.inr ⟨by kernel_rfl, rfl⟩) ?_
                try simp only [Act.put, List.getElem_toArray, List.getElem_cons_succ, List.getElem_cons_zero, List.setIfInBounds_toArray, List.set_cons_zero, List.set_cons_succ]
                refine WD_free (i := 13) (oi := _) (v := ?_) rfl (by kernel_rfl) (fun _ _ _ h => h) (Or.inl ⟨by rfl, ?_⟩) ?_
                rotate_left
                · (intro W hS; (try dsimp only at hS); clear hS; go_simp; with_reducible rfl)
                try simp only [Act.put, List.getElem_toArray, List.getElem_cons_succ, List.getElem_cons_zero, List.setIfInBounds_toArray, List.set_cons_zero, List.set_cons_succ]
                refine WD_done (by kernel_rfl) ?_ _

                have HB6 := Lib.hid (HB.out.trans ((below_two HB5.out hHeld).mono hz0r))
                clear hHeld
                go_wp2_with fail
                go_round
                case rel => exact ⟨I + 1, by go_num, by omega, HB6⟩
                case measure => simp [intOf]; omega
            · have hK2 : (K : Int) < n := by omega
              have hK3 : K < n := by omega
              have ky := rowL_at0 (HRow.out.below HBK.out (Nat.le_refl _)) (shV_get hK3)
              obtain ⟨y, hy⟩ : ∃ y, f ((K : Int) + 1) % a0 = y := ⟨_, rfl⟩
              have HST : Hid (flatI (ptN f a0 (K + 1)) = flatI (ptN f a0 K) ++ [.int .i64 ((K : Int) + 1), .int .i64 y]) := Lib.hid (by rw [ptN_step, flatI_append, hy]; rfl)
              rw [hy] at ky
              have hown := HOK.out
              have hz := HBK.out.size
              have g1 : IntKind.i64.wrap ((K : Int) + 1) = (K : Int) + 1 := IntWalk.i64_in _ (by omega)
              clear hy kv kx
              go_wp2_with (first
                | (at_builtin; refine wpList_append_own _ rfl _ _ 39 rfl wo.heap.size 43 i0 (.agg #[.int .i64 0, .int .i64 0]) 2 16 hu hi hz0 hz1 hz2 rfl (by decide) _ _ _ rfl (hown.alloc _) ⟨wr.heap.size, 0, none⟩ 1 1 [.int .i64 ((K : Int) + 1), .int .i64 y] rfl rfl (cell_two_new _ _ _ _) (by simp [Value.oneCell']) (by unfold maxLen; omega) (by omega) (by simp; omega) ?_; intro v' w2 hown' hg2 hnil2; have kk2 := ((HBK.out.alloc hz (.cells #[.int .i64 ((K : Int) + 1), .int .i64 y] 43)).grown hg2 (by simp; omega) (fun j hj => (hown.lt j hj).1))))
              go_round
              case rel => exact ⟨K + 1, by go_num, by omega, Lib.hid kk2, Lib.hid (by rw [HST.out]; exact hown')⟩
              case measure => simp [intOf]; omega
    · have HPl := Lib.hid fun W (hb : Below w.heap.size w W) => parts_Play_bad a0 a1 a2 a3 a4 cap2 cap3 cap4 z2 ins R W (gr.below hb (Nat.le_refl _)) (ir.below hb (Nat.le_refl _)) (rr.below hb (Nat.le_refl _)) gm l2 l3 (fun h => hP h.2)
      obtain ⟨m, hm⟩ : ∃ m, ins.length = m := ⟨_, rfl⟩
      obtain ⟨N, hN⟩ : ∃ m, z2.length = m := ⟨_, rfl⟩
      obtain ⟨RL, hRL⟩ : ∃ m, R.length = m := ⟨_, rfl⟩
      rw [hm, hN] at HCl
      rw [hm, hN, hRL] at HPl
      rw [hm, hN, hRL]
      clear gm gr ir rr l2 l3 hG hP hm hN hRL mk1 mk2
      go_enter Try.func11, Try.ntmps11
      go_wp2_with fail
      refine HCl.out.mono ?_
      rintro e w1 ⟨⟨v1, rfl, ho1⟩, hb1⟩
      clear ho1
      go_wp2_with fail
      refine (HPl.out _ hb1).mono ?_
      rintro e w2 ⟨⟨E, hE, rfl⟩, hb2⟩
      have hb3 := below_two hb1 hb2
      have e1 : (E != 0) = true := by simpa using hE
      have e2 : (E == 0) = false := by simpa using hE
      clear hE hb1 hb2
      go_wp2_with fail
      go_ret
      exact ⟨rfl, hb3⟩
  · have HCl := Lib.hid (parts_Clear_bad a0 a2 a3 cap2 cap3 z2 ins w gr ir gm l2 hG)
    have HPl := Lib.hid fun W (hb : Below w.heap.size w W) => parts_Play_bad a0 a1 a2 a3 a4 cap2 cap3 cap4 z2 ins R W (gr.below hb (Nat.le_refl _)) (ir.below hb (Nat.le_refl _)) (rr.below hb (Nat.le_refl _)) gm l2 l3 (fun h => hG h.1)
    obtain ⟨m, hm⟩ : ∃ m, ins.length = m := ⟨_, rfl⟩
    obtain ⟨N, hN⟩ : ∃ m, z2.length = m := ⟨_, rfl⟩
    obtain ⟨RL, hRL⟩ : ∃ m, R.length = m := ⟨_, rfl⟩
    rw [hm, hN] at HCl
    rw [hm, hN, hRL] at HPl
    rw [hm, hN, hRL]
    clear gm gr ir rr l2 l3 hG hm hN hRL mk1 mk2
    go_enter Try.func11, Try.ntmps11
    go_wp2_with fail
    refine HCl.out.mono ?_
    rintro e w1 ⟨⟨E1, hE1, rfl⟩, hb1⟩
    have d1 : (E1 != 0) = true := by simpa using hE1
    have d2 : (E1 == 0) = false := by simpa using hE1
    clear hE1
    go_wp2_with fail
    refine (HPl.out _ hb1).mono ?_
    rintro e w2 ⟨⟨E, hE, rfl⟩, hb2⟩
    have hb3 := below_two hb1 hb2
    clear hE hb1 hb2
    go_wp2_with fail
    go_ret
    exact ⟨rfl, hb3⟩
end Go.Proofs.Ytfgmnlphejpcaaa
