/- The contract of ratchet.Play. -/
import Derived.Test.YtpikjahgnnejmaaPlayM
import Derived.Test.YtpikjahgnnejmaaBit64
import Derived.Maps.AppendAt
namespace Go.Proofs.Ytpikjahgnnejmaa
open Go.RowKit Go.Maps
set_option linter.unusedVariables false
set_option linter.unusedSimpArgs false
theorem posted_info : (Try.prog.info? 62).map (fun i => (i.zero, i.size, i.bytes)) = some (some (.agg #[.int .i64 0, .int .i64 0]), 2, 16) := by kernel_rfl
theorem intR_info : (Try.prog.info? 3).map (fun i => (i.zero, i.size, i.bytes)) = some (some (.int .i64 0), 1, 8) := by kernel_rfl
theorem cell_twoP (w : World) (x y : Value) (t : TypeId) : ∀ (j : Nat) (u : Value), [x, y][j]? = some u → (w.alloc (.cells #[x, y] t)).cell? ((⟨w.heap.size, 0, none⟩ : Addr).add j) = some u := by
  intro j u h
  have hn := World.alloc_heap_new w (.cells #[x, y] t)
  match j, h with
  | 0, h => rw [show (⟨w.heap.size, 0, none⟩ : Addr).add 0 = ⟨w.heap.size, 0, none⟩ from rfl]; simp only [World.cell?]; rw [hn]; simpa using h
  | 1, h => rw [show (⟨w.heap.size, 0, none⟩ : Addr).add 1 = ⟨w.heap.size, 1, none⟩ from rfl]; simp only [World.cell?]; rw [hn]; simpa using h
theorem cell_twoB (w : World) (x y : Value) (t : TypeId) (b : Nat) (hb : b = w.heap.size) : ∀ (j : Nat) (u : Value), [x, y][j]? = some u → (w.alloc (.cells #[x, y] t)).cell? ((⟨b, 0, none⟩ : Addr).add j) = some u := by
  subst hb
  exact cell_twoP w x y t
theorem cell_oneB (w : World) (x : Value) (t : TypeId) (b : Nat) (hb : b = w.heap.size) : ∀ (j : Nat) (u : Value), [x][j]? = some u → (w.alloc (.cells #[x] t)).cell? ((⟨b, 0, none⟩ : Addr).add j) = some u := by
  subst hb
  exact cell_one_new w x t
theorem cell_oneP (w : World) (x : Value) (t : TypeId) : ∀ (j : Nat) (u : Value), [x][j]? = some u → (w.alloc (.cells #[x] t)).cell? ((⟨w.heap.size, 0, none⟩ : Addr).add j) = some u := by
  intro j u h
  have hn := World.alloc_heap_new w (.cells #[x] t)
  match j, h with
  | 0, h => rw [show (⟨w.heap.size, 0, none⟩ : Addr).add 0 = ⟨w.heap.size, 0, none⟩ from rfl]; simp only [World.cell?]; rw [hn]; simpa using h
theorem PM.cells {w W : World} {k0 most ns A : Nat} {K sent : List Nat} {outs : List (Int × Int)} {v1 v2 : Value} {bp : Nat} {code n : Int} (h : PM w k0 most ns A K sent outs v1 v2 bp code n W) :
    W.cell? ⟨bp, 0, none⟩ = some (.int .i64 code) ∧ W.cell? ⟨bp, 1, none⟩ = some (.int .i64 n) ∧ W.frozen? ⟨bp, 0, none⟩ = false ∧ W.frozen? ⟨bp, 1, none⟩ = false := by
  refine ⟨?_, ?_, ?_, ?_⟩ <;> simp [World.cell?, World.frozen?, h.box]
theorem PM.sndC {w W : World} {k0 most ns A : Nat} {K sent : List Nat} {outs : List (Int × Int)} {v1 v2 : Value} {bp : Nat} {code n : Int} (h : PM w k0 most ns A K sent outs v1 v2 bp code n W) :
    W.cell? ⟨w.heap.size + 1 + 1, 0, none⟩ = some (.int .i64 (keyN k0 ns : Nat)) ∧ W.frozen? ⟨w.heap.size + 1 + 1, 0, none⟩ = false := by
  refine ⟨?_, ?_⟩ <;> simp [World.cell?, World.frozen?, h.snd]
theorem PI.shp {w W : World} {k0 most A : Nat} {K sent : List Nat} {outs : List (Int × Int)} {v1 v2 : Value} (h : PI w k0 most A K sent outs v1 v2 W) : ∃ a c, v1 = .slice a sent.length c := by
  rcases h.sld.2 with ⟨rfl, h0⟩ | ⟨g, c, cur, rfl, _⟩
  · exact ⟨none, 0, by rw [h0]⟩
  · exact ⟨_, c, rfl⟩
theorem PM.sldC {w W : World} {k0 most ns A : Nat} {K sent : List Nat} {outs : List (Int × Int)} {a : Option Addr} {c : Nat} {v2 : Value} {bp : Nat} {code n : Int} (h : PM w k0 most ns A K sent outs (.slice a sent.length c) v2 bp code n W) {M : Nat} (hM : M < sent.length) :
    ∃ g, a = some ⟨g, 0, none⟩ ∧ W.cell? ⟨g, M, none⟩ = some (.int .i64 ((sent.getD M 0 ^^^ msgN k0 M : Nat) : Int)) := by
  rcases h.sld.2 with ⟨e, h0⟩ | ⟨g, c', cur, e, _⟩
  · omega
  · have e1 : a = some ⟨g, 0, none⟩ := by injection e
    refine ⟨g, e1, ?_⟩
    have h2 := h.sld
    rw [e1] at h2
    rw [h2.cellAt M (by omega)]
    unfold sealV
    simp [hM]
theorem openN_ok {k0 most A n : Nat} {K : List Nat} (h : (openN k0 most A K n).1.2 = 0) : (openN k0 most A K n).1.1 = msgN k0 n := by
  unfold openN at h ⊢
  split <;> rename_i h1
  · split <;> rename_i h2
    · rfl
    · rw [if_pos h1, if_neg h2] at h; cases h
  · split <;> rename_i h2
    · rw [if_neg h1, if_pos h2] at h; cases h
    · rfl
theorem openN_lt {k0 most A n : Nat} {K : List Nat} : (openN k0 most A K n).1.1 < 65536 := by
  unfold openN
  split
  · split
    · exact msgN_lt _ _
    · show 0 < 65536; omega
  · split
    · show 0 < 65536; omega
    · exact msgN_lt _ _
theorem sKeepP (W W1 : World) (g k : Nat) (x v : Value) (hb : Below W.heap.size W W1) (hne : g ≠ k) (hS : W.cell? ⟨g, 2, none⟩ = some x) : (W1.setCell ⟨k, 0, none⟩ v).cell? ⟨g, 2, none⟩ = some x := by
  have h := kept hb hS (World.block_lt_of_cell? W _ hS)
  rw [World.cell?_setCell_other _ _ _ _ (by simp [hne])]; exact h
theorem own_le {w : World} {base base' size n : Nat} {e : TypeId} {v : Value} {xs : List Value} (h : w.ownsRow base e size v n xs) (hb : base' ≤ base) : w.ownsRow base' e size v n xs := by
  refine ⟨h.1, ?_⟩
  rcases h.2 with h0 | ⟨g, cap, cur, hv, hg, rest⟩
  · exact .inl h0
  · exact .inr ⟨g, cap, cur, hv, Nat.le_trans hb hg, rest⟩
theorem stopHere {P : Prop} (h : P ∧ True) : P := h.1
theorem take_play {k0 most I : Nat} {z : List Po} {x : Po} {outs : List (Int × Int)} {S : RS} (h : (outs, S) = playR k0 most rs0 (z.take I)) (hx : z[I]? = some x) :
    (outs ++ [(stepR k0 most S x).1], (stepR k0 most S x).2) = playR k0 most rs0 (z.take (I + 1)) := by
  rw [List.take_add_one, hx]
  show _ = playR k0 most rs0 (z.take I ++ [x])
  rw [playR_snoc, ← h]
set_option maxRecDepth 20000 in
set_option maxHeartbeats 6400000 in
theorem ratchet_Play (k0 most : Nat) (a : Option Addr) (len cap : Nat) (z : List Po) (w : World) (hk : k0 < 65536) (hm : most ≤ 100) (h : IsPosts w a len cap z) (hl : len ≤ 100) :
    Calls Try.prog 26 #[.int .i64 k0, .int .i64 most, .slice a len cap] w fun e w' => ∃ v, e = .returned (.tuple #[v, .int .i64 0]) ∧ Below w.heap.size w w' ∧ w'.ownsRow w.heap.size 62 2 v z.length (flatT (playR k0 most rs0 z).1) := by
  obtain ⟨hL, hl64, hrow, hfit⟩ := h
  have HO := Lib.hid (fun W => ratchet_out (k0 : Int) W (by omega))
  rw [decide_eq_false (show ¬ (k0 : Int) < 0 by omega), decide_eq_false (show ¬ (65536 : Int) ≤ (k0 : Int) by omega)] at HO
  have HL := Lib.hid hL
  have HR := Lib.hid hrow
  have HF := Lib.hid hfit
  clear hL hrow hfit hl64
  have hmm := @run_makeMap Try.prog
  go_enter Try.func26, Try.ntmps26
  go_wp2_with fail
  refine (HO.out _).mono ?_
  rintro e w' ⟨rfl, rfl⟩
  go_wp2
  rw [decide_eq_false (show ¬ (most : Int) < 0 by omega), decide_eq_false (show ¬ (100 : Int) < (most : Int) by omega), decide_eq_false (show ¬ (100 : Int) < (len : Int) by omega)]
  simp only [Bool.or_self]
  obtain ⟨w0, hw0⟩ : ∃ W, W = ((w.alloc (.map #[] 0)).alloc (.cells #[.int .i64 (k0 : Nat), .int .i64 0, .int .i64 (most : Nat), .map (some w.heap.size)] 90)).alloc (.cells #[.int .i64 (k0 : Nat)] 86) := ⟨_, rfl⟩
  have hPI0 : PI w k0 most 0 [] [] [] (.slice none 0 0) (.slice none 0 0) w0 := by
    rw [hw0]
    refine ⟨(((Below.refl _ _).alloc (Nat.le_refl _) _).alloc (by simp) _).alloc (by simp; omega) _, ⟨?_, ⟨.map [], 0, ?_, Nat.le_refl _, KRel.nil k0⟩, (fun i h => by cases h)⟩, ?_, World.ownsRow_nil _ _ _ _, World.ownsRow_nil _ _ _ _⟩
    · have h1 := World.alloc_heap_new (w.alloc (.map #[] 0)) (.cells #[.int .i64 (k0 : Nat), .int .i64 0, .int .i64 (most : Nat), .map (some w.heap.size)] 90)
      rw [Below.heap_alloc _ _ _ (by simp)]
      simp only [World.size_alloc] at h1
      exact h1
    · exact (((World.ownsMap_made w Try.prog 3 (plainElem Try.prog 3)).alloc _).alloc _)
    · have h1 := World.alloc_heap_new ((w.alloc (.map #[] 0)).alloc (.cells #[.int .i64 (k0 : Nat), .int .i64 0, .int .i64 (most : Nat), .map (some w.heap.size)] 90)) (.cells #[.int .i64 (k0 : Nat)] 86)
      simp only [World.size_alloc] at h1
      exact h1
  rw [← hw0]
  clear hw0 hmm
  obtain ⟨i0, hi, hz0, hz1, hz2⟩ := info_parts posted_info
  have hu : Try.prog.underlying 55 = some (.slice 62) := by kernel_rfl
  obtain ⟨j0, ji, jz0, jz1, jz2⟩ := info_parts intR_info
  have ju : Try.prog.underlying 58 = some (.slice 3) := by kernel_rfl
  go_loopw [10, 11, 37] (fun v1 v2 ix wr => ∃ (I : Nat) (S : RS) (outs : List (Int × Int)), ix = .int .i64 (I : Int) ∧ I ≤ len ∧ Hid ((outs, S) = playR k0 most rs0 (z.take I)) ∧ Hid (RInv S I) ∧ outs.length = I ∧ PI w k0 most S.at' S.kept S.sent outs v1 v2 wr) (fun _ _ ix _ => len - (intOf ix).toNat)
  case atStart => exact ⟨0, rs0, [], rfl, Nat.zero_le _, Lib.hid rfl, Lib.hid RInv.init, rfl, hPI0⟩
  case round =>
    obtain ⟨I, S, outs, rfl, hI, HP, HV, hol, hPI⟩ := hrel
    by_cases hlt : I < len
    · obtain ⟨x, hx⟩ : ∃ x, z[I]? = some x := ⟨_, List.getElem?_eq_getElem (by rw [HL.out]; exact hlt)⟩
      obtain ⟨b, o, rfl, hc⟩ := (HR.out.below (hPI.bel.mono (Nat.le_refl _)) (Nat.le_refl _)).shape (by rw [HL.out]; omega)
      obtain ⟨k1, k2, k3⟩ := hc I x hx
      obtain ⟨q1, q2, q3⟩ := HF.out x (List.mem_of_getElem? hx)
      unfold fits at q1 q2 q3
      have HN := Lib.hid (take_play HP.out hx)
      have HV2 := Lib.hid (HV.out.step (k0 := k0) (most := most) x)
      have hsl := HV.out.len
      have hal := HV.out.atl
      clear hc hx
      have hstep : ∃ r, r = stepR k0 most S x := ⟨_, rfl⟩
      obtain ⟨R, hR⟩ := hstep
      rw [← hR] at HN HV2
      obtain ⟨kd, ms, nn⟩ := x
      simp only at k1 k2 k3 q1 q2 q3
      have HPI := Lib.hid hPI
      have HOL := Lib.hid hol
      have hol2 : outs.length ≤ 100 := by omega
      have hwz := hPI.siz
      clear hPI hol
      unfold stepR at hR
      simp only at hR
      by_cases e1 : kd = 1
      · rw [if_pos e1] at hR
        have b1 : (kd == 1) = true := by simpa using e1
        have HOn := Lib.hid (fun W => ratchet_out nn W q3)
        clear e1
        by_cases e3 : nn < 0 ∨ 65536 ≤ nn
        · rw [if_pos e3] at hR
          have e4 : (decide (nn < 0) || decide (65536 ≤ nn)) = true := by simpa using e3
          rw [e4] at HOn
          clear e3 e4
          have HRR := Lib.hid hR
          have HPM := Lib.hid (PM.of HPI.out (.cells #[.int .i64 kd, .int .i64 ms, .int .i64 nn] 60) 2 0)
          clear hR
          go_wp2_with fail
          refine (HOn.out _).mono ?_
          rintro e w' ⟨rfl, rfl⟩
          go_wp2_with (at_builtin; refine stopHere ?_)
          refine ⟨?_, trivial⟩
          refine wpList_append_own _ rfl _ _ 55 rfl (w.heap.size + 3) 62 i0 (.agg #[.int .i64 0, .int .i64 0]) 2 16 hu hi hz0 hz1 hz2 rfl (by decide) _ _ _ rfl (HPM.out.out.alloc _) ⟨_, 0, none⟩ 1 1 [.int .i64 2, .int .i64 0] rfl rfl (cell_twoB _ _ _ _ _ (by first | rfl | assumption | simp)) (by simp [Value.oneCell']) (by unfold maxLen; omega) (by omega) (by have := HPM.out.siz; first | (simp; omega) | omega) ?_; intro v' w3 hown' hg3 hnil3
          have hF := Lib.hid (HPM.out.finish hown' hg3)
          clear hown' hg3 hnil3
          go_wp2_with fail
          go_roundw
          case rel => exact ⟨I + 1, R.2, outs ++ [R.1], by go_num, by omega, HN, HV2, by rw [List.length_append, HOL.out]; rfl, by rw [HRR.out]; exact hF.out⟩
          case measure => simp [intOf]; omega
        · rw [if_neg e3] at hR
          have e4 : (decide (nn < 0) || decide (65536 ≤ nn)) = false := by rw [decide_eq_false (show ¬ nn < 0 by omega), decide_eq_false (show ¬ 65536 ≤ nn by omega)]; rfl
          rw [e4] at HOn
          obtain ⟨N, rfl⟩ := Int.eq_ofNat_of_zero_le (show 0 ≤ nn by omega)
          have hN : N < 65536 := by omega
          rw [Int.toNat_natCast] at hR
          clear e3 e4
          have HRR := Lib.hid hR
          have HPM0 := Lib.hid (PM.of HPI.out (.cells #[.int .i64 kd, .int .i64 ms, .int .i64 (N : Int)] 60) 0 0)
          clear hR
          go_wp2_with fail
          refine (HOn.out _).mono ?_
          rintro e w' ⟨rfl, rfl⟩
          clear HOn
          go_wp2_with fail
          have HTu := Lib.hid (fun W c f => ratchet_turn (w.heap.size + 1 + 1) 0 (keyN k0 S.sent.length) W (keyN_lt hk _) c f)
          have hx1 : bits .xor .i64 (N : Int) ((partN (keyN k0 S.sent.length) 1 : Nat) : Int) = ((N ^^^ msgN k0 S.sent.length : Nat) : Int) := i64_xor_nat _ _ (by omega) (by have := msgN_lt k0 S.sent.length; unfold msgN at this; omega)
          have hne : wr.heap.size ≠ w.heap.size + 1 + 1 := by omega
          obtain ⟨Wa, hWa⟩ : ∃ Wa, Wa = (wr.alloc (.cells #[.int .i64 kd, .int .i64 ms, .int .i64 (N : Int)] 60)).alloc (.cells #[.int .i64 0, .int .i64 0] 62) := ⟨_, rfl⟩
          have hs0 : Wa.drew.cell? ⟨wr.heap.size, 2, none⟩ = some (.int .i64 (N : Int)) := by
            rw [hWa]
            show (World.alloc _ _).cell? _ = _
            simp only [World.cell?]
            rw [Below.heap_alloc _ _ _ (by simp)]
            rw [World.alloc_heap_new]
            rfl
          rw [← hWa] at HPM0 ⊢
          clear hWa
          refine wp_region_D (S := (fun W : World => W.cell? ⟨wr.heap.size, 2, none⟩ = some (.int .i64 (N : Int)))) (fun j => j != 5) (by kernel_rfl) hs0 (fun hHeld => ?_)
          simp only [List.size_toArray, List.length_cons, List.length_nil, Nat.reduceAdd, Array.replicate_succ, Array.replicate_zero, List.push_toArray, List.append_toArray, List.nil_append, List.cons_append]
          refine WD_free (i := 0) (oi := _) (v := ?_) rfl (by kernel_rfl) (fun _ _ _ h => h) (Or.inl ⟨by rfl, ?_⟩) ?_
          rotate_left
          · (intro W hS; (try dsimp only at hS); clear hS; go_simp; with_reducible rfl)
          try simp only [Act.put, List.getElem_toArray, List.getElem_cons_succ, List.getElem_cons_zero, List.setIfInBounds_toArray, List.set_cons_zero, List.set_cons_succ]
          refine WD_take (i := 1) (oi := _) (v := ?_) rfl (by kernel_rfl) (fun _ _ _ h => h) (Or.inl ⟨by rfl, ?_⟩) (by assumption) ?_
          rotate_left
          · (intro W hS; (try dsimp only at hS); have k := hS; clear hS; go_simp; with_reducible rfl)
          try simp only [Act.put, List.getElem_toArray, List.getElem_cons_succ, List.getElem_cons_zero, List.setIfInBounds_toArray, List.set_cons_zero, List.set_cons_succ]
          refine WD_step (i := 2) (o := _) rfl (by kernel_rfl) (fun K hK => ?_)
          go_simp
          go_at_call 46
          refine (HTu.out _ HPM0.out.drew.sndC.1 HPM0.out.drew.sndC.2).mono ?_
          rintro e w2 ⟨rfl, W1, hb1, rfl⟩
          go_wp2_with fail
          replace hHeld := (sKeepP _ W1 _ _ _ (.int .i64 (partN (keyN k0 S.sent.length) 2 : Nat)) hb1 hne hHeld)
          refine hK.out _ _ (fun _ _ => hHeld) ?_
          clear hK K
          try simp only [Act.put, List.getElem_toArray, List.getElem_cons_succ, List.getElem_cons_zero, List.setIfInBounds_toArray, List.set_cons_zero, List.set_cons_succ]
          have HPM1 := Lib.hid (PM.turn HPM0.out.drew hb1)
          clear hb1
          refine WD_free (i := 3) (oi := _) (v := ?_) rfl (by kernel_rfl) (fun _ _ _ h => h) (Or.inl ⟨by rfl, ?_⟩) ?_
          rotate_left
          · (intro W hS; (try dsimp only at hS); have x1 := hx1; clear hS; go_simp; with_reducible rfl)
          try simp only [Act.put, List.getElem_toArray, List.getElem_cons_succ, List.getElem_cons_zero, List.setIfInBounds_toArray, List.set_cons_zero, List.set_cons_succ]
          refine WD_free (i := 4) (oi := _) (v := ?_) rfl (by kernel_rfl) (fun _ _ _ h => h) (Or.inl ⟨by rfl, ?_⟩) ?_
          rotate_left
          · (intro W hS; (try dsimp only at hS); clear hS; go_simp; with_reducible rfl)
          try simp only [Act.put, List.getElem_toArray, List.getElem_cons_succ, List.getElem_cons_zero, List.setIfInBounds_toArray, List.set_cons_zero, List.set_cons_succ]
          refine WD_step (i := 5) (o := _) rfl (by kernel_rfl) (fun K hK => ?_)
          obtain ⟨c0, c1, f0, f1⟩ := HPM1.out.cells
          go_simp
          refine hK.out _ _ (fun h => by cases h) ?_
          clear hK K
          try simp only [Act.put, List.getElem_toArray, List.getElem_cons_succ, List.getElem_cons_zero, List.setIfInBounds_toArray, List.set_cons_zero, List.set_cons_succ]
          refine WD_done (by kernel_rfl) ?_ _
          clear hHeld
          have HPM2 := Lib.hid (PM.set HPM1.out 1 0 ((N ^^^ msgN k0 S.sent.length : Nat) : Int) (.int .i64 ((N ^^^ msgN k0 S.sent.length : Nat) : Int)) rfl)
          generalize (W1.setCell ⟨w.heap.size + 1 + 1, 0, none⟩ (.int .i64 (partN (keyN k0 S.sent.length) 2 : Nat))).setCell ⟨wr.heap.size + 1, 1, none⟩ (.int .i64 ((N ^^^ msgN k0 S.sent.length : Nat) : Int)) = W2 at HPM2 ⊢
          obtain ⟨d0, d1, _, _⟩ := HPM2.out.cells
          go_wp2_with (at_builtin; refine stopHere ?_)
          refine ⟨?_, trivial⟩
          refine wpList_append_own_at _ rfl _ _ 58 rfl (w.heap.size + 3) 3 j0 (.int .i64 0) 1 8 ju ji jz0 jz1 jz2 rfl (by decide) _ _ _ rfl (HPM2.out.sld.alloc _) ⟨_, 0, none⟩ 1 1 [.int .i64 ((N ^^^ msgN k0 S.sent.length : Nat) : Int)] rfl rfl (cell_oneB _ _ _ _ (by first | rfl | assumption | simp)) (by simp [Value.oneCell']) (by unfold maxLen; omega) (by omega) (by have := HPM2.out.siz; simp; omega) ?_
          intro v3 w3 hown3 hgr3 hni3 hat3
          have HPM3 := Lib.hid (PM.sealed HPM2.out hown3 hgr3 (hat3.imp_right fun e => ⟨_, e, by simp⟩))
          clear hown3 hgr3 hni3 hat3 d0 d1
          rw [show S.sent.length + 1 = (S.sent ++ [N]).length by simp] at HPM3
          obtain ⟨d0, d1, _, _⟩ := HPM3.out.cells
          go_wp2_with (at_builtin; refine stopHere ?_)
          refine ⟨?_, trivial⟩
          refine wpList_append_own _ rfl _ _ 55 rfl (w.heap.size + 3) 62 i0 (.agg #[.int .i64 0, .int .i64 0]) 2 16 hu hi hz0 hz1 hz2 rfl (by decide) _ _ _ rfl (HPM3.out.out.alloc _) ⟨_, 0, none⟩ 1 1 [.int .i64 0, .int .i64 ((N ^^^ msgN k0 S.sent.length : Nat) : Int)] rfl rfl (cell_twoB _ _ _ _ _ (by first | rfl | assumption | simp)) (by simp [Value.oneCell']) (by unfold maxLen; omega) (by omega) (by have := HPM3.out.siz; first | (simp; omega) | omega) ?_; intro v' w3 hown' hg3 hnil3
          have hF := Lib.hid (HPM3.out.finish hown' hg3)
          clear hown' hg3 hnil3
          go_wp2_with fail
          go_roundw
          case rel => exact ⟨I + 1, R.2, outs ++ [R.1], by go_num, by omega, HN, HV2, by rw [List.length_append, HOL.out]; rfl, by rw [HRR.out]; exact hF.out⟩
          case measure => simp [intOf]; omega
      · rw [if_neg e1] at hR
        have b1 : (kd == 1) = false := by simpa using e1
        by_cases e2 : kd = 2
        · rw [if_neg (by simpa using e2)] at hR
          have b2 : (kd != 2) = false := by simpa using e2
          clear e1 e2
          by_cases e3 : ms < 0
          · rw [if_pos (.inl e3)] at hR
            have HRR := Lib.hid hR
            have HPM := Lib.hid (PM.of HPI.out (.cells #[.int .i64 kd, .int .i64 ms, .int .i64 nn] 60) 3 0)
            clear hR
            go_wp2_with (at_builtin; refine stopHere ?_)
            refine ⟨?_, trivial⟩
            refine wpList_append_own _ rfl _ _ 55 rfl (w.heap.size + 3) 62 i0 (.agg #[.int .i64 0, .int .i64 0]) 2 16 hu hi hz0 hz1 hz2 rfl (by decide) _ _ _ rfl (HPM.out.out.alloc _) ⟨_, 0, none⟩ 1 1 [.int .i64 3, .int .i64 0] rfl rfl (cell_twoB _ _ _ _ _ (by first | rfl | assumption | simp)) (by simp [Value.oneCell']) (by unfold maxLen; omega) (by omega) (by have := HPM.out.siz; first | (simp; omega) | omega) ?_; intro v' w3 hown' hg3 hnil3
            have hF := Lib.hid (HPM.out.finish hown' hg3)
            clear hown' hg3 hnil3
            go_wp2_with fail
            go_roundw
            case rel => exact ⟨I + 1, R.2, outs ++ [R.1], by go_num, by omega, HN, HV2, by rw [List.length_append, HOL.out]; rfl, by rw [HRR.out]; exact hF.out⟩
            case measure => simp [intOf]; omega
          · obtain ⟨sa, sc, rfl⟩ := HPI.out.shp
            by_cases e4 : (S.sent.length : Int) ≤ ms
            · rw [if_pos (.inr e4)] at hR
              have HRR := Lib.hid hR
              have HPM := Lib.hid (PM.of HPI.out (.cells #[.int .i64 kd, .int .i64 ms, .int .i64 nn] 60) 3 0)
              clear hR
              go_wp2_with (at_builtin; refine stopHere ?_)
              refine ⟨?_, trivial⟩
              refine wpList_append_own _ rfl _ _ 55 rfl (w.heap.size + 3) 62 i0 (.agg #[.int .i64 0, .int .i64 0]) 2 16 hu hi hz0 hz1 hz2 rfl (by decide) _ _ _ rfl (HPM.out.out.alloc _) ⟨_, 0, none⟩ 1 1 [.int .i64 3, .int .i64 0] rfl rfl (cell_twoB _ _ _ _ _ (by first | rfl | assumption | simp)) (by simp [Value.oneCell']) (by unfold maxLen; omega) (by omega) (by have := HPM.out.siz; first | (simp; omega) | omega) ?_; intro v' w3 hown' hg3 hnil3
              have hF := Lib.hid (HPM.out.finish hown' hg3)
              clear hown' hg3 hnil3
              go_wp2_with fail
              go_roundw
              case rel => exact ⟨I + 1, R.2, outs ++ [R.1], by go_num, by omega, HN, HV2, by rw [List.length_append, HOL.out]; rfl, by rw [HRR.out]; exact hF.out⟩
              case measure => simp [intOf]; omega
            · rw [if_neg (by omega)] at hR
              have HRR := Lib.hid hR
              have HPM := Lib.hid (PM.of HPI.out (.cells #[.int .i64 kd, .int .i64 ms, .int .i64 nn] 60) 0 0)
              obtain ⟨M, rfl⟩ := Int.eq_ofNat_of_zero_le (show 0 ≤ ms by omega)
              have hM : M < S.sent.length := by omega
              rw [Int.toNat_natCast] at HRR
              obtain ⟨P1, P2, A2, K2, he⟩ : ∃ P1 P2 A2 K2, openN k0 most S.at' S.kept M = ((P1, P2), A2, K2) := ⟨_, _, _, _, rfl⟩
              have hok : P2 = 0 → P1 = msgN k0 M := fun h => by
                have := @openN_ok k0 most S.at' M S.kept
                rw [he] at this; exact this h
              have hp1 : P1 < 65536 := by
                have := @openN_lt k0 most S.at' M S.kept
                rw [he] at this; exact this
              have hkl := nodup_lt HV.out.nd HV.out.lt
              have HOp := Lib.hid (fun W h => taker_open (w.heap.size + 1) w.heap.size k0 S.at' most M S.kept W hk h (by omega) (by omega) (by omega) (by omega))
              rw [he] at HOp
              rw [he] at HRR
              simp only at HOp HRR
              clear he hR
              go_wp2_with fail
              refine (HOp.out _ HPM.out.tk).mono ?_
              rintro e w2 ⟨rfl, ht2, hbut⟩
              have HPM1 := Lib.hid (PM.opened HPM.out ht2 hbut)
              have k2' : w2.cell? ⟨wr.heap.size, 1, none⟩ = some (.int .i64 (M : Int)) := by
                simp only [World.cell?]
                rw [hbut.block _ (by simp; omega) (by simp; omega) (by simp; omega), Below.heap_alloc _ _ _ (by simp), World.alloc_heap_new]
                rfl
              clear ht2 hbut HPM HOp
              obtain ⟨c0, c1, f0, f1⟩ := HPM1.out.cells
              by_cases hp : P2 = 0
              · subst hp
                have h9 := hok rfl
                subst h9
                clear hok
                simp only [show ((0 : Nat) : Int) = 0 from rfl, if_true] at HRR ⊢
                have HPM2 := Lib.hid (PM.set HPM1.out 0 0 0 (.int .i64 0) rfl)
                obtain ⟨sg, rfl, hs1⟩ := HPM2.out.sldC hM
                obtain ⟨Y, hY⟩ : ∃ Y, Y = S.sent.getD M 0 := ⟨_, rfl⟩
                rw [← hY] at HRR hs1
                have hv1 : Y < 65536 := hY ▸ HV.out.val _ (by rw [List.getD_eq_getElem?_getD, List.getElem?_eq_getElem hM]; exact List.getElem_mem hM)
                clear hY
                have hxx : bits .xor .i64 ((Y ^^^ msgN k0 M : Nat) : Int) ((msgN k0 M : Nat) : Int) = ((Y : Nat) : Int) := by
                  have hx1 : Y ^^^ msgN k0 M < 65536 := Nat.xor_lt_two_pow (n := 16) hv1 hp1
                  rw [i64_xor_nat _ _ (by omega) (by omega), Nat.xor_assoc, Nat.xor_self, Nat.xor_zero]
                have k2w : (w2.setCell ⟨wr.heap.size + 1, 0, none⟩ (.int .i64 0)).cell? ⟨wr.heap.size, 1, none⟩ = some (.int .i64 (M : Int)) := by
                  rw [World.cell?_setCell_other _ _ _ _ (by simp)]; exact k2'
                have HPM3 := Lib.hid (PM.set HPM2.out 1 0 ((Y : Nat) : Int) (.int .i64 ((Y : Nat) : Int)) rfl)
                go_wp2_with (at_builtin; refine stopHere ?_)
                have hW3 : w2.heap.size = ((w2.setCell ⟨wr.heap.size + 1, 0, none⟩ (.int .i64 0)).setCell ⟨wr.heap.size + 1, 1, none⟩ (.int .i64 ((Y : Nat) : Int))).heap.size := by simp
                generalize (w2.setCell ⟨wr.heap.size + 1, 0, none⟩ (.int .i64 0)).setCell ⟨wr.heap.size + 1, 1, none⟩ (.int .i64 ((Y : Nat) : Int)) = W3 at HPM3 hW3 ⊢
                refine ⟨?_, trivial⟩
                refine wpList_append_own _ rfl _ _ 55 rfl (w.heap.size + 3) 62 i0 (.agg #[.int .i64 0, .int .i64 0]) 2 16 hu hi hz0 hz1 hz2 rfl (by decide) _ _ _ rfl (HPM3.out.out.alloc _) ⟨_, 0, none⟩ 1 1 [.int .i64 0, .int .i64 ((Y : Nat) : Int)] rfl rfl (cell_twoB _ _ _ _ _ (by first | rfl | assumption | simp)) (by simp [Value.oneCell']) (by unfold maxLen; omega) (by omega) (by have := HPM3.out.siz; first | (simp; omega) | omega) ?_; intro v' w3 hown' hg3 hnil3
                have hF := Lib.hid (HPM3.out.finish hown' hg3)
                clear hown' hg3 hnil3
                go_wp2_with fail
                go_roundw
                case rel => exact ⟨I + 1, R.2, outs ++ [R.1], by go_num, by omega, HN, HV2, by rw [List.length_append, HOL.out]; rfl, by rw [HRR.out]; exact hF.out⟩
                case measure => simp [intOf]; omega
              · have hpi : ((P2 : Int) == 0) = false := by simp; omega
                have HPM2 := Lib.hid (PM.set HPM1.out 0 (P2 : Int) 0 (.int .i64 (P2 : Int)) rfl)
                rw [if_neg hp] at HRR
                clear hp hok
                go_wp2_with (at_builtin; refine stopHere ?_)
                have hW3 : w2.heap.size = (w2.setCell ⟨wr.heap.size + 1, 0, none⟩ (.int .i64 (P2 : Int))).heap.size := by simp
                generalize w2.setCell ⟨wr.heap.size + 1, 0, none⟩ (.int .i64 (P2 : Int)) = W3 at HPM2 hW3 ⊢
                refine ⟨?_, trivial⟩
                refine wpList_append_own _ rfl _ _ 55 rfl (w.heap.size + 3) 62 i0 (.agg #[.int .i64 0, .int .i64 0]) 2 16 hu hi hz0 hz1 hz2 rfl (by decide) _ _ _ rfl (HPM2.out.out.alloc _) ⟨_, 0, none⟩ 1 1 [.int .i64 (P2 : Int), .int .i64 0] rfl rfl (cell_twoB _ _ _ _ _ (by first | rfl | assumption | simp)) (by simp [Value.oneCell']) (by unfold maxLen; omega) (by omega) (by have := HPM2.out.siz; first | (simp; omega) | omega) ?_; intro v' w3 hown' hg3 hnil3
                have hF := Lib.hid (HPM2.out.finish hown' hg3)
                clear hown' hg3 hnil3
                go_wp2_with fail
                go_roundw
                case rel => exact ⟨I + 1, R.2, outs ++ [R.1], by go_num, by omega, HN, HV2, by rw [List.length_append, HOL.out]; rfl, by rw [HRR.out]; exact hF.out⟩
                case measure => simp [intOf]; omega
        · rw [if_pos e2] at hR
          have b2 : (kd != 2) = true := by simpa using e2
          clear e1 e2
          have HRR := Lib.hid hR
          have HPM := Lib.hid (PM.of HPI.out (.cells #[.int .i64 kd, .int .i64 ms, .int .i64 nn] 60) 6 0)
          clear hR
          go_wp2_with (at_builtin; refine stopHere ?_)
          refine ⟨?_, trivial⟩
          refine wpList_append_own _ rfl _ _ 55 rfl (w.heap.size + 3) 62 i0 (.agg #[.int .i64 0, .int .i64 0]) 2 16 hu hi hz0 hz1 hz2 rfl (by decide) _ _ _ rfl (HPM.out.out.alloc _) ⟨_, 0, none⟩ 1 1 [.int .i64 6, .int .i64 0] rfl rfl (cell_twoB _ _ _ _ _ (by first | rfl | assumption | simp)) (by simp [Value.oneCell']) (by unfold maxLen; omega) (by omega) (by have := HPM.out.siz; first | (simp; omega) | omega) ?_; intro v' w3 hown' hg3 hnil3
          have hF := Lib.hid (HPM.out.finish hown' hg3)
          clear hown' hg3 hnil3
          go_wp2_with fail
          go_roundw
          case rel => exact ⟨I + 1, R.2, outs ++ [R.1], by go_num, by omega, HN, HV2, by rw [List.length_append, HOL.out]; rfl, by rw [HRR.out]; exact hF.out⟩
          case measure => simp [intOf]; omega
    · have e1 : I = len := by omega
      subst e1
      have e2 := HP.out
      rw [List.take_of_length_le (by rw [HL.out]; exact Nat.le_refl _)] at e2
      have e3 := own_le hPI.out (show w.heap.size ≤ w.heap.size + 3 by omega)
      have e4 := hPI.bel
      rw [hol, ← HL.out, show outs = (playR k0 most rs0 z).1 from by rw [← e2]] at e3
      clear HP HV HO HR HF hPI
      go_wp2_with fail
      refine bodyPost_ret (v := .tuple #[u11, .int .i64 0]) ?_ rfl ?_
      · go_simp; first | rfl | kernel_rfl
      · exact ⟨_, rfl, e4, e3⟩
set_option maxHeartbeats 1600000 in
theorem ratchet_Play_bad (k most : Int) (a : Option Addr) (len cap : Nat) (w : World) (hk : -9223372036854775808 ≤ k ∧ k ≤ 9223372036854775807) (h : k < 0 ∨ 65536 ≤ k ∨ most < 0 ∨ 100 < most) :
    Calls Try.prog 26 #[.int .i64 k, .int .i64 most, .slice a len cap] w fun e w' => e = .returned (.tuple #[.slice none 0 0, .int .i64 2]) ∧ w = w' := by
  have HO := Lib.hid (fun W => ratchet_out k W hk)
  have hh : ((decide (k < 0) || decide (65536 ≤ k)) || (decide (most < 0) || decide (100 < most))) = true := by simpa [or_assoc] using h
  clear h
  obtain ⟨c1, e1⟩ : ∃ c, c = (decide (k < 0) || decide (65536 ≤ k)) := ⟨_, rfl⟩
  rw [← e1] at HO hh
  go_enter Try.func26, Try.ntmps26
  go_wp2_with fail
  refine (HO.out _).mono ?_
  rintro e w' ⟨rfl, rfl⟩
  clear e1 HO
  cases c1
  · simp only [Bool.false_or] at hh
    by_cases q1 : most < 0
    · go_wp2
      refine bodyPost_ret (v := .tuple #[.slice none 0 0, .int .i64 2]) ?_ rfl ?_
      · go_simp; first | rfl | kernel_rfl
      · exact ⟨rfl, rfl⟩
    · have q2 : 100 < most := by simpa [q1] using hh
      go_wp2
      refine bodyPost_ret (v := .tuple #[.slice none 0 0, .int .i64 2]) ?_ rfl ?_
      · go_simp; first | rfl | kernel_rfl
      · exact ⟨rfl, rfl⟩
  · go_wp2
    refine bodyPost_ret (v := .tuple #[.slice none 0 0, .int .i64 2]) ?_ rfl ?_
    · go_simp; first | rfl | kernel_rfl
    · exact ⟨rfl, rfl⟩
set_option maxHeartbeats 1600000 in
theorem ratchet_Play_long (k0 most : Nat) (a : Option Addr) (len cap : Nat) (w : World) (hk : k0 < 65536) (hm : most ≤ 100) (hl : 100 < len) :
    Calls Try.prog 26 #[.int .i64 k0, .int .i64 most, .slice a len cap] w fun e w' => e = .returned (.tuple #[.slice none 0 0, .int .i64 1]) ∧ w = w' := by
  have HO := Lib.hid (fun W => ratchet_out (k0 : Int) W (by omega))
  rw [decide_eq_false (show ¬ (k0 : Int) < 0 by omega), decide_eq_false (show ¬ (65536 : Int) ≤ (k0 : Int) by omega)] at HO
  go_enter Try.func26, Try.ntmps26
  go_wp2_with fail
  refine (HO.out _).mono ?_
  rintro e w' ⟨rfl, rfl⟩
  have q1 : ¬ (most : Int) < 0 := by omega
  have q2 : ¬ 100 < (most : Int) := by omega
  have q3 : 100 < (len : Int) := by omega
  go_wp2
  refine bodyPost_ret (v := .tuple #[.slice none 0 0, .int .i64 1]) ?_ rfl ?_
  · go_simp; first | rfl | kernel_rfl
  · exact ⟨rfl, rfl⟩
end Go.Proofs.Ytpikjahgnnejmaa
