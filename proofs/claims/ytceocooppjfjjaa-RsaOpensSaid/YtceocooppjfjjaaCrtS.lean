/- The contract of crt.Solve. -/
import Derived.Test.YtceocooppjfjjaaCrtW
import Derived.Test.YtceocooppjfjjaaHold
import Derived.Deep.RegionWith
namespace Go.Proofs.Ytceocooppjfjjaa
open Go.RowKit
set_option linter.unusedVariables false
set_option linter.unusedSimpArgs false
theorem restsE_zero {l : List (Int × Int)} (h : restsE l = 0) : l.length ≤ 8 ∧ (∀ (j : Nat) (v : Int × Int), l[j]? = some v → badR v = false) ∧ lcmI 1 l ≤ 2147483648 := by
  unfold restsE at h
  split at h
  · cases h
  · split at h
    · cases h
    · split at h
      · cases h
      · rename_i h1 h2 h3
        refine ⟨by omega, fun j v hv => ?_, by omega⟩
        have := List.any_eq_false.1 (show l.any badR = false by simpa using h2) v (List.mem_of_getElem? hv)
        simpa using this
/-- what Solve answers where nothing is wrong -/
def SolP (l : List (Int × Int)) (w : World) (e : Ending) (w' : World) : Prop :=
  ((∃ A M : Int, CInv l A M ∧ e = .returned (.tuple #[.agg #[.int .i64 A, .int .i64 M], .int .i64 0])) ∨ ((∀ x, ¬ FitsAll l x) ∧ e = .returned (.tuple #[.agg #[.int .i64 0, .int .i64 0], .int .i64 5]))) ∧ Below w.heap.size w w'
set_option maxRecDepth 100000 in
set_option maxHeartbeats 1600000 in
theorem crt_Solve_bad (a : Option Addr) (c : Nat) (l : List (Int × Int)) (w : World) {L : Nat} (h : RowP w a c l) (eL : l.length = L) (hl : L ≤ 9223372036854775807) (hw : restsE l ≠ 0) :
    Calls Try.prog 26 #[.slice a L c] w fun e w' => e = .returned (.tuple #[.agg #[.int .i64 0, .int .i64 0], .int .i64 (restsE l)]) ∧ Below w.heap.size w w' := by
  have HW := Lib.hid fun w' (hb : Below w.heap.size w w') => crt_wrong a c l w' (h.below hb (Nat.le_refl _)) eL hl
  obtain ⟨T, hT⟩ : ∃ T, restsE l = T := ⟨_, rfl⟩
  rw [hT] at HW hw ⊢
  have t1 : (T == 0) = false := by simpa using hw
  have t2 : (T != 0) = true := by simpa using hw
  clear h eL hT hw
  go_enter Try.func26, Try.ntmps26
  go_wp2_with fail
  refine (HW.out _ ((Below.refl _ _).alloc (Nat.le_refl _) _)).mono ?_
  rintro e w1 ⟨rfl, hb1⟩
  have z1 := hb1.size
  simp at z1
  have r0 := kept hb1 (b := w.heap.size) (o := 0) (v := .int .i64 0) (by simp [go_sem]) (by simp)
  have r1 := kept hb1 (b := w.heap.size) (o := 1) (v := .int .i64 0) (by simp [go_sem]) (by simp)
  have s0 := (hb1.frozen (p := ⟨w.heap.size, 0, none⟩) (by simp [go_sem])).trans (show _ = false by simp [go_sem])
  have s1 := (hb1.frozen (p := ⟨w.heap.size, 1, none⟩) (by simp [go_sem])).trans (show _ = false by simp [go_sem])
  have hB := below_two ((Below.refl w.heap.size w).alloc (Nat.le_refl _) _) hb1
  clear hb1
  go_wp2
  refine bodyPost_ret (v := .tuple #[.agg #[.int .i64 0, .int .i64 0], .int .i64 T]) ?_ rfl ?_
  · simp [results, Try.f26, go_sem, r0, r1]
  · exact ⟨rfl, (hB.setCell (by simp) _).setCell (by simp) _⟩
set_option maxRecDepth 100000 in
set_option maxHeartbeats 6400000 in
theorem crt_Solve (a : Option Addr) (c : Nat) (l : List (Int × Int)) (w : World) {L : Nat} (h : RowP w a c l) (eL : l.length = L) (hw : restsE l = 0) :
    Calls Try.prog 26 #[.slice a L c] w (SolP l w) := by
  obtain ⟨h8, hg, hlc⟩ := restsE_zero hw
  have HW := Lib.hid fun w' (hb : Below w.heap.size w w') => crt_wrong a c l w' (h.below hb (Nat.le_refl _)) eL (by omega)
  rw [hw] at HW
  have HR := Lib.hid h
  have HL := Lib.hid eL
  have HG := Lib.hid hg
  have HLc := Lib.hid fun I => And.intro (lcmI_take_le (rests_pos hg) I) hlc
  rw [eL] at h8
  clear h eL hw hg hlc
  go_enter Try.func26, Try.ntmps26
  go_wp2_with fail
  refine (HW.out _ ((Below.refl _ _).alloc (Nat.le_refl _) _)).mono ?_
  rintro e w1 ⟨rfl, hb1⟩
  have z1 := hb1.size
  simp at z1
  have r0 := kept hb1 (b := w.heap.size) (o := 0) (v := .int .i64 0) (by simp [go_sem]) (by simp)
  have r1 := kept hb1 (b := w.heap.size) (o := 1) (v := .int .i64 0) (by simp [go_sem]) (by simp)
  have s0 := (hb1.frozen (p := ⟨w.heap.size, 0, none⟩) (by simp [go_sem])).trans (show _ = false by simp [go_sem])
  have s1 := (hb1.frozen (p := ⟨w.heap.size, 1, none⟩) (by simp [go_sem])).trans (show _ = false by simp [go_sem])
  have hB1 := below_two ((Below.refl w.heap.size w).alloc (Nat.le_refl _) _) hb1
  have n5 : ¬ w1.heap.size = w.heap.size := by omega
  have n5' : ¬ w.heap.size = w1.heap.size := by omega
  have A1 : Below w1.heap.size w1 (w1.alloc (.cells #[.int .i64 0, .int .i64 1] 46)) := (Below.refl _ _).alloc (Nat.le_refl _) _
  clear hb1
  go_wp2
  have hB5 : Below w.heap.size w (w1.alloc (.cells #[.int .i64 0, .int .i64 1] 46)) := hB1.alloc (by omega) _
  go_loopw [18] (fun i wr => ∃ (I : Nat) (A M : Int), i = .int .i64 I ∧ I ≤ L ∧ Hid (CInv (l.take I) A M) ∧ wr.cell? ⟨w1.heap.size, 0, none⟩ = some (.int .i64 A) ∧ wr.cell? ⟨w1.heap.size, 1, none⟩ = some (.int .i64 M) ∧ wr.frozen? ⟨w1.heap.size, 0, none⟩ = false ∧ wr.frozen? ⟨w1.heap.size, 1, none⟩ = false ∧ wr.cell? ⟨w.heap.size, 0, none⟩ = some (.int .i64 0) ∧ wr.cell? ⟨w.heap.size, 1, none⟩ = some (.int .i64 0) ∧ wr.frozen? ⟨w.heap.size, 0, none⟩ = false ∧ wr.frozen? ⟨w.heap.size, 1, none⟩ = false ∧ Below w.heap.size w wr) (fun i _ => L - (intOf i).toNat)
  case atStart => exact ⟨0, 0, 1, rfl, Nat.zero_le _, Lib.hid cinv_nil, by simp [go_sem], by simp [go_sem], by simp [go_sem], by simp [go_sem], kept A1 r0 (by omega), kept A1 r1 (by omega), (A1.frozen (p := ⟨w.heap.size, 0, none⟩) (by simp; omega)).trans s0, (A1.frozen (p := ⟨w.heap.size, 1, none⟩) (by simp; omega)).trans s1, hB5⟩
  case round =>
    obtain ⟨I, A, M, rfl, hI, HC, k0, k1, f0, f1, r0, r1, s0, s1, hb⟩ := hrel
    by_cases hlt : I < L
    · obtain ⟨v, hv⟩ : ∃ v, l[I]? = some v := ⟨_, List.getElem?_eq_getElem (by rw [HL.out]; omega)⟩
      obtain ⟨b, o, rfl, hcell⟩ := (HR.out.below hb (Nat.le_refl _)).shape (by rw [HL.out]; omega)
      obtain ⟨kx, ky⟩ := hcell I v hv
      obtain ⟨x1, x2, x3, x4⟩ := badR_no (HG.out I v hv)
      have hsn : l.take (I + 1) = l.take I ++ [v] := by rw [List.take_add_one (i := I), hv]; rfl
      have HSn := Lib.hid hsn
      have hl1 := HLc.out (I + 1)
      have m1 := HC.out.m1
      have a0 := HC.out.a0
      have am := HC.out.am
      have ml : M ≤ 2147483648 := by have := HLc.out I; have := HC.out.lc; omega
      have HNo := Lib.hid fun hd => join_no (v := v) HC.out hd
      have HYes := Lib.hid fun A' h0 h1 d1 d2 => join_yes (A' := A') (v := v) HC.out x1 rfl h0 h1 d1 d2
      have hll : (Int.lcm M v.2 : Int) ≤ 2147483648 := by
        have h3 : lcmI 1 (l.take (I + 1)) = (Int.lcm M v.2 : Int) := by rw [hsn, lcmI_snoc, ← HC.out.lc]
        omega
      have HV := Lib.hid hv
      have ha2 : ∀ x ∈ l, True := fun _ _ => trivial
      obtain ⟨x, m⟩ := v
      simp only at kx ky x1 x2 x3 x4 HNo HYes hll
      have hz := hb.size
      have nb1 := World.block_lt_of_cell? wr _ k0
      simp only at nb1
      have g1 := Int.emod_nonneg x (show m ≠ 0 by omega)
      have g2 := Int.emod_lt_of_pos x (show 0 < m by omega)
      obtain ⟨X, hX⟩ : ∃ X, x % m = X := ⟨_, rfl⟩
      rw [hX] at g1 g2 HNo HYes
      have HX := Lib.hid hX
      clear hcell hv hsn hl1 hX ha2
      go_wp2_with fail
      obtain ⟨B, hBe⟩ : ∃ B : World, B = wr.alloc (.cells #[.int .i64 x, .int .i64 m] 46) := ⟨_, rfl⟩
      have AB : Below wr.heap.size wr B := by rw [hBe]; exact (Below.refl _ _).alloc (Nat.le_refl _) _
      have c0 : B.cell? ⟨w1.heap.size, 0, none⟩ = some (.int .i64 A) := kept AB k0 nb1
      have c1 : B.cell? ⟨w1.heap.size, 1, none⟩ = some (.int .i64 M) := kept AB k1 nb1
      have d0 : B.cell? ⟨wr.heap.size, 0, none⟩ = some (.int .i64 x) := by rw [hBe]; simp [go_sem]
      have d1 : B.cell? ⟨wr.heap.size, 1, none⟩ = some (.int .i64 m) := by rw [hBe]; simp [go_sem]
      have c2 : B.frozen? ⟨w1.heap.size, 0, none⟩ = false := (AB.frozen (p := ⟨w1.heap.size, 0, none⟩) (by simp; omega)).trans f0
      have c3 : B.frozen? ⟨w1.heap.size, 1, none⟩ = false := (AB.frozen (p := ⟨w1.heap.size, 1, none⟩) (by simp; omega)).trans f1
      have t0 : B.cell? ⟨w.heap.size, 0, none⟩ = some (.int .i64 0) := kept AB r0 (by omega)
      have t1 : B.cell? ⟨w.heap.size, 1, none⟩ = some (.int .i64 0) := kept AB r1 (by omega)
      have t2 : B.frozen? ⟨w.heap.size, 0, none⟩ = false := (AB.frozen (p := ⟨w.heap.size, 0, none⟩) (by simp; omega)).trans s0
      have t3 : B.frozen? ⟨w.heap.size, 1, none⟩ = false := (AB.frozen (p := ⟨w.heap.size, 1, none⟩) (by simp; omega)).trans s1
      have hbB : Below w.heap.size w B := by rw [hBe]; exact hb.alloc hz _
      have zB : w1.heap.size < B.heap.size := World.block_lt_of_cell? B _ c0
      have zB2 : wr.heap.size < B.heap.size := World.block_lt_of_cell? B _ d0
      rw [← hBe]
      clear hBe k0 k1 f0 f1 r0 r1 s0 s1 hb AB
      by_cases hd : (Int.gcd M m : Int) ∣ X - A
      · have hd0 := Lib.hid hd
        refine wp_region_D (S := (fun W : World => Below B.heap.size B W)) (fun j => j != 13) (by kernel_rfl) (Below.refl _ _).drew (fun hHeld => ?_)
        simp only [List.size_toArray, List.length_cons, List.length_nil, Nat.reduceAdd, Array.replicate_succ, Array.replicate_zero, List.push_toArray, List.append_toArray, List.nil_append, List.cons_append]
        refine WD_take (i := 0) (oi := _) (v := ?_) rfl (by kernel_rfl) (fun _ _ _ h => h) (Or.inl ⟨by rfl, ?_⟩) (by assumption) ?_
        rotate_left
        · (intro W hS; (try dsimp only at hS); have kk := (hS.cell (p := ⟨w1.heap.size, 0, none⟩) (World.block_lt_of_cell? B _ c0)).trans c0; have kk2 := (hS.cell (p := ⟨w1.heap.size, 1, none⟩) (World.block_lt_of_cell? B _ c1)).trans c1; clear hS; go_simp; with_reducible rfl)
        try simp only [Act.put, List.getElem_toArray, List.getElem_cons_succ, List.getElem_cons_zero, List.setIfInBounds_toArray, List.set_cons_zero, List.set_cons_succ]
        refine WD_free (i := 1) (oi := _) (v := ?_) rfl (by kernel_rfl) (fun _ _ _ h => h) (Or.inl ⟨by rfl, ?_⟩) ?_
        rotate_left
        · (intro W hS; (try dsimp only at hS); clear hS; go_simp; with_reducible rfl)
        try simp only [Act.put, List.getElem_toArray, List.getElem_cons_succ, List.getElem_cons_zero, List.setIfInBounds_toArray, List.set_cons_zero, List.set_cons_succ]
        refine WD_take (i := 2) (oi := _) (v := ?_) rfl (by kernel_rfl) (fun _ _ _ h => h) (Or.inl ⟨by rfl, ?_⟩) (by assumption) ?_
        rotate_left
        · (intro W hS; (try dsimp only at hS); have kk := (hS.cell (p := ⟨wr.heap.size, 0, none⟩) (World.block_lt_of_cell? B _ d0)).trans d0; clear hS; go_simp; with_reducible rfl)
        try simp only [Act.put, List.getElem_toArray, List.getElem_cons_succ, List.getElem_cons_zero, List.setIfInBounds_toArray, List.set_cons_zero, List.set_cons_succ]
        refine WD_free (i := 3) (oi := _) (v := ?_) rfl (by kernel_rfl) (fun _ _ _ h => h) (Or.inl ⟨by rfl, ?_⟩) ?_
        rotate_left
        · (intro W hS; (try dsimp only at hS); clear hS; go_simp; with_reducible rfl)
        try simp only [Act.put, List.getElem_toArray, List.getElem_cons_succ, List.getElem_cons_zero, List.setIfInBounds_toArray, List.set_cons_zero, List.set_cons_succ]
        refine WD_take (i := 4) (oi := _) (v := ?_) rfl (by kernel_rfl) (fun _ _ _ h => h) (Or.inl ⟨by rfl, ?_⟩) (by assumption) ?_
        rotate_left
        · (intro W hS; (try dsimp only at hS); have kk := (hS.cell (p := ⟨wr.heap.size, 1, none⟩) (World.block_lt_of_cell? B _ d1)).trans d1; clear hS; go_simp; with_reducible rfl)
        try simp only [Act.put, List.getElem_toArray, List.getElem_cons_succ, List.getElem_cons_zero, List.setIfInBounds_toArray, List.set_cons_zero, List.set_cons_succ]
        refine WD_free (i := 6) (oi := _) (v := ?_) rfl (by kernel_rfl) (fun _ _ _ h => h) (Or.inl ⟨by rfl, ?_⟩) ?_
        rotate_left
        · (intro W hS; (try dsimp only at hS); clear hS; go_simp; with_reducible rfl)
        try simp only [Act.put, List.getElem_toArray, List.getElem_cons_succ, List.getElem_cons_zero, List.setIfInBounds_toArray, List.set_cons_zero, List.set_cons_succ]
        refine WD_take (i := 7) (oi := _) (v := ?_) rfl (by kernel_rfl) (fun _ _ _ h => h) (Or.inl ⟨by rfl, ?_⟩) (by assumption) ?_
        rotate_left
        · (intro W hS; (try dsimp only at hS); have kk := (hS.cell (p := ⟨wr.heap.size, 1, none⟩) (World.block_lt_of_cell? B _ d1)).trans d1; clear hS; go_simp; with_reducible rfl)
        try simp only [Act.put, List.getElem_toArray, List.getElem_cons_succ, List.getElem_cons_zero, List.setIfInBounds_toArray, List.set_cons_zero, List.set_cons_succ]
        refine WD_step (i := 5) (o := _) rfl (by kernel_rfl) (fun K hK => ?_)
        go_simp
        refine (euclid_Mod x m _ x1 (by omega)).mono ?_
        rintro e w2 ⟨rfl, rfl⟩
        rw [HX.out]
        go_wp2_with fail
        replace hHeld := hHeld
        refine hK.out _ _ (fun _ _ => hHeld) ?_
        clear hK K
        try simp only [Act.put, List.getElem_toArray, List.getElem_cons_succ, List.getElem_cons_zero, List.setIfInBounds_toArray, List.set_cons_zero, List.set_cons_succ]
        refine WD_free (i := 8) (oi := _) (v := ?_) rfl (by kernel_rfl) (fun _ _ _ h => h) (Or.inl ⟨by rfl, ?_⟩) ?_
        rotate_left
        · (intro W hS; (try dsimp only at hS); clear hS; go_simp; with_reducible rfl)
        try simp only [Act.put, List.getElem_toArray, List.getElem_cons_succ, List.getElem_cons_zero, List.setIfInBounds_toArray, List.set_cons_zero, List.set_cons_succ]
        refine WD_step (i := 9) (o := _) rfl (by kernel_rfl) (fun K hK => ?_)
        go_simp
        refine (crt_join_yes A M X m _ a0 (by omega) m1 ml g1 (by omega) x1 x2 hd hll).mono ?_
        rintro e w3 ⟨⟨A', rfl, h0, h1, h2, h3⟩, hb3⟩
        go_wp2_with fail
        replace hHeld := below_two hHeld hb3
        refine hK.out _ _ (fun _ _ => hHeld) ?_
        clear hK K
        try simp only [Act.put, List.getElem_toArray, List.getElem_cons_succ, List.getElem_cons_zero, List.setIfInBounds_toArray, List.set_cons_zero, List.set_cons_succ]
        refine WD_free (i := 10) (oi := _) (v := ?_) rfl (by kernel_rfl) (fun _ _ _ h => h) (Or.inl ⟨by rfl, ?_⟩) ?_
        rotate_left
        · (intro W hS; (try dsimp only at hS); clear hS; go_simp; with_reducible rfl)
        try simp only [Act.put, List.getElem_toArray, List.getElem_cons_succ, List.getElem_cons_zero, List.setIfInBounds_toArray, List.set_cons_zero, List.set_cons_succ]
        refine WD_free (i := 11) (oi := _) (v := ?_) rfl (by kernel_rfl) (fun _ _ _ h => h) (Or.inl ⟨by rfl, ?_⟩) ?_
        rotate_left
        · (intro W hS; (try dsimp only at hS); clear hS; go_simp; with_reducible rfl)
        try simp only [Act.put, List.getElem_toArray, List.getElem_cons_succ, List.getElem_cons_zero, List.setIfInBounds_toArray, List.set_cons_zero, List.set_cons_succ]
        refine WD_free (i := 12) (oi := _) (v := ?_) rfl (by kernel_rfl) (fun _ _ _ h => h) (Or.inl ⟨by rfl, ?_⟩) ?_
        rotate_left
        · (intro W hS; (try dsimp only at hS); clear hS; go_simp; with_reducible rfl)
        try simp only [Act.put, List.getElem_toArray, List.getElem_cons_succ, List.getElem_cons_zero, List.setIfInBounds_toArray, List.set_cons_zero, List.set_cons_succ]
        -- STORE
        have y0 := kept hHeld c0 zB
        have y1 := kept hHeld c1 zB
        have y2 := (hHeld.frozen (p := ⟨w1.heap.size, 0, none⟩) (by exact zB)).trans c2
        have y3 := (hHeld.frozen (p := ⟨w1.heap.size, 1, none⟩) (by exact zB)).trans c3
        have v0 := kept hHeld t0 (by omega)
        have v1 := kept hHeld t1 (by omega)
        have v2 := (hHeld.frozen (p := ⟨w.heap.size, 0, none⟩) (by simp; omega)).trans t2
        have v3 := (hHeld.frozen (p := ⟨w.heap.size, 1, none⟩) (by simp; omega)).trans t3
        have hb3t := below_two hbB hHeld
        have z3 := hHeld.size
        refine WD_step (i := 13) (o := _) rfl (by kernel_rfl) (fun K hK => ?_)
        go_simp
        refine hK.out _ _ (fun h => by cases h) ?_
        clear hK K
        try simp only [Act.put, List.getElem_toArray, List.getElem_cons_succ, List.getElem_cons_zero, List.setIfInBounds_toArray, List.set_cons_zero, List.set_cons_succ]
        refine WD_free (i := 14) (oi := _) (v := ?_) rfl (by kernel_rfl) (fun _ _ _ h => h) (Or.inl ⟨by rfl, ?_⟩) ?_
        rotate_left
        · (intro W hS; (try dsimp only at hS); clear hS; go_simp; with_reducible rfl)
        try simp only [Act.put, List.getElem_toArray, List.getElem_cons_succ, List.getElem_cons_zero, List.setIfInBounds_toArray, List.set_cons_zero, List.set_cons_succ]
        refine WD_done (by kernel_rfl) ?_ _
        clear hHeld c0 c1 c2 c3 d0 d1 t0 t1 t2 t3 hb3
        go_wp2
        go_round
        case rel =>
          refine ⟨I + 1, A', (Int.lcm M m : Int), by go_num, by omega, Lib.hid (by rw [HSn.out]; exact HYes.out A' h0 h1 h2 h3), ?_, ?_, ?_, ?_, ?_, ?_, ?_, ?_, (hb3t.setCell (by simp; omega) _).setCell (by simp; omega) _⟩
          all_goals simp [go_sem, y0, y1, y2, y3, v0, v1, v2, v3]
        case measure => simp [intOf]; omega
      · have hd0 := Lib.hid hd
        refine wp_region_D (S := (fun W : World => Below B.heap.size B W)) (fun j => j != 13) (by kernel_rfl) (Below.refl _ _).drew (fun hHeld => ?_)
        simp only [List.size_toArray, List.length_cons, List.length_nil, Nat.reduceAdd, Array.replicate_succ, Array.replicate_zero, List.push_toArray, List.append_toArray, List.nil_append, List.cons_append]
        refine WD_take (i := 0) (oi := _) (v := ?_) rfl (by kernel_rfl) (fun _ _ _ h => h) (Or.inl ⟨by rfl, ?_⟩) (by assumption) ?_
        rotate_left
        · (intro W hS; (try dsimp only at hS); have kk := (hS.cell (p := ⟨w1.heap.size, 0, none⟩) (World.block_lt_of_cell? B _ c0)).trans c0; have kk2 := (hS.cell (p := ⟨w1.heap.size, 1, none⟩) (World.block_lt_of_cell? B _ c1)).trans c1; clear hS; go_simp; with_reducible rfl)
        try simp only [Act.put, List.getElem_toArray, List.getElem_cons_succ, List.getElem_cons_zero, List.setIfInBounds_toArray, List.set_cons_zero, List.set_cons_succ]
        refine WD_free (i := 1) (oi := _) (v := ?_) rfl (by kernel_rfl) (fun _ _ _ h => h) (Or.inl ⟨by rfl, ?_⟩) ?_
        rotate_left
        · (intro W hS; (try dsimp only at hS); clear hS; go_simp; with_reducible rfl)
        try simp only [Act.put, List.getElem_toArray, List.getElem_cons_succ, List.getElem_cons_zero, List.setIfInBounds_toArray, List.set_cons_zero, List.set_cons_succ]
        refine WD_take (i := 2) (oi := _) (v := ?_) rfl (by kernel_rfl) (fun _ _ _ h => h) (Or.inl ⟨by rfl, ?_⟩) (by assumption) ?_
        rotate_left
        · (intro W hS; (try dsimp only at hS); have kk := (hS.cell (p := ⟨wr.heap.size, 0, none⟩) (World.block_lt_of_cell? B _ d0)).trans d0; clear hS; go_simp; with_reducible rfl)
        try simp only [Act.put, List.getElem_toArray, List.getElem_cons_succ, List.getElem_cons_zero, List.setIfInBounds_toArray, List.set_cons_zero, List.set_cons_succ]
        refine WD_free (i := 3) (oi := _) (v := ?_) rfl (by kernel_rfl) (fun _ _ _ h => h) (Or.inl ⟨by rfl, ?_⟩) ?_
        rotate_left
        · (intro W hS; (try dsimp only at hS); clear hS; go_simp; with_reducible rfl)
        try simp only [Act.put, List.getElem_toArray, List.getElem_cons_succ, List.getElem_cons_zero, List.setIfInBounds_toArray, List.set_cons_zero, List.set_cons_succ]
        refine WD_take (i := 4) (oi := _) (v := ?_) rfl (by kernel_rfl) (fun _ _ _ h => h) (Or.inl ⟨by rfl, ?_⟩) (by assumption) ?_
        rotate_left
        · (intro W hS; (try dsimp only at hS); have kk := (hS.cell (p := ⟨wr.heap.size, 1, none⟩) (World.block_lt_of_cell? B _ d1)).trans d1; clear hS; go_simp; with_reducible rfl)
        try simp only [Act.put, List.getElem_toArray, List.getElem_cons_succ, List.getElem_cons_zero, List.setIfInBounds_toArray, List.set_cons_zero, List.set_cons_succ]
        refine WD_free (i := 6) (oi := _) (v := ?_) rfl (by kernel_rfl) (fun _ _ _ h => h) (Or.inl ⟨by rfl, ?_⟩) ?_
        rotate_left
        · (intro W hS; (try dsimp only at hS); clear hS; go_simp; with_reducible rfl)
        try simp only [Act.put, List.getElem_toArray, List.getElem_cons_succ, List.getElem_cons_zero, List.setIfInBounds_toArray, List.set_cons_zero, List.set_cons_succ]
        refine WD_take (i := 7) (oi := _) (v := ?_) rfl (by kernel_rfl) (fun _ _ _ h => h) (Or.inl ⟨by rfl, ?_⟩) (by assumption) ?_
        rotate_left
        · (intro W hS; (try dsimp only at hS); have kk := (hS.cell (p := ⟨wr.heap.size, 1, none⟩) (World.block_lt_of_cell? B _ d1)).trans d1; clear hS; go_simp; with_reducible rfl)
        try simp only [Act.put, List.getElem_toArray, List.getElem_cons_succ, List.getElem_cons_zero, List.setIfInBounds_toArray, List.set_cons_zero, List.set_cons_succ]
        refine WD_step (i := 5) (o := _) rfl (by kernel_rfl) (fun K hK => ?_)
        go_simp
        refine (euclid_Mod x m _ x1 (by omega)).mono ?_
        rintro e w2 ⟨rfl, rfl⟩
        rw [HX.out]
        go_wp2_with fail
        replace hHeld := hHeld
        refine hK.out _ _ (fun _ _ => hHeld) ?_
        clear hK K
        try simp only [Act.put, List.getElem_toArray, List.getElem_cons_succ, List.getElem_cons_zero, List.setIfInBounds_toArray, List.set_cons_zero, List.set_cons_succ]
        refine WD_free (i := 8) (oi := _) (v := ?_) rfl (by kernel_rfl) (fun _ _ _ h => h) (Or.inl ⟨by rfl, ?_⟩) ?_
        rotate_left
        · (intro W hS; (try dsimp only at hS); clear hS; go_simp; with_reducible rfl)
        try simp only [Act.put, List.getElem_toArray, List.getElem_cons_succ, List.getElem_cons_zero, List.setIfInBounds_toArray, List.set_cons_zero, List.set_cons_succ]
        refine WD_step (i := 9) (o := _) rfl (by kernel_rfl) (fun K hK => ?_)
        go_simp
        refine (crt_join_no A M X m _ a0 (by omega) m1 ml g1 (by omega) x1 x2 hd).mono ?_
        rintro e w3 ⟨rfl, hb3⟩
        go_wp2_with fail
        replace hHeld := below_two hHeld hb3
        refine hK.out _ _ (fun _ _ => hHeld) ?_
        clear hK K
        try simp only [Act.put, List.getElem_toArray, List.getElem_cons_succ, List.getElem_cons_zero, List.setIfInBounds_toArray, List.set_cons_zero, List.set_cons_succ]
        refine WD_free (i := 10) (oi := _) (v := ?_) rfl (by kernel_rfl) (fun _ _ _ h => h) (Or.inl ⟨by rfl, ?_⟩) ?_
        rotate_left
        · (intro W hS; (try dsimp only at hS); clear hS; go_simp; with_reducible rfl)
        try simp only [Act.put, List.getElem_toArray, List.getElem_cons_succ, List.getElem_cons_zero, List.setIfInBounds_toArray, List.set_cons_zero, List.set_cons_succ]
        refine WD_free (i := 11) (oi := _) (v := ?_) rfl (by kernel_rfl) (fun _ _ _ h => h) (Or.inl ⟨by rfl, ?_⟩) ?_
        rotate_left
        · (intro W hS; (try dsimp only at hS); clear hS; go_simp; with_reducible rfl)
        try simp only [Act.put, List.getElem_toArray, List.getElem_cons_succ, List.getElem_cons_zero, List.setIfInBounds_toArray, List.set_cons_zero, List.set_cons_succ]
        refine WD_free (i := 12) (oi := _) (v := ?_) rfl (by kernel_rfl) (fun _ _ _ h => h) (Or.inl ⟨by rfl, ?_⟩) ?_
        rotate_left
        · (intro W hS; (try dsimp only at hS); clear hS; go_simp; with_reducible rfl)
        try simp only [Act.put, List.getElem_toArray, List.getElem_cons_succ, List.getElem_cons_zero, List.setIfInBounds_toArray, List.set_cons_zero, List.set_cons_succ]
        -- STORE
        have y0 := kept hHeld c0 zB
        have y1 := kept hHeld c1 zB
        have y2 := (hHeld.frozen (p := ⟨w1.heap.size, 0, none⟩) (by exact zB)).trans c2
        have y3 := (hHeld.frozen (p := ⟨w1.heap.size, 1, none⟩) (by exact zB)).trans c3
        have v0 := kept hHeld t0 (by omega)
        have v1 := kept hHeld t1 (by omega)
        have v2 := (hHeld.frozen (p := ⟨w.heap.size, 0, none⟩) (by simp; omega)).trans t2
        have v3 := (hHeld.frozen (p := ⟨w.heap.size, 1, none⟩) (by simp; omega)).trans t3
        have hb3t := below_two hbB hHeld
        have z3 := hHeld.size
        refine WD_step (i := 13) (o := _) rfl (by kernel_rfl) (fun K hK => ?_)
        go_simp
        refine hK.out _ _ (fun h => by cases h) ?_
        clear hK K
        try simp only [Act.put, List.getElem_toArray, List.getElem_cons_succ, List.getElem_cons_zero, List.setIfInBounds_toArray, List.set_cons_zero, List.set_cons_succ]
        refine WD_free (i := 14) (oi := _) (v := ?_) rfl (by kernel_rfl) (fun _ _ _ h => h) (Or.inl ⟨by rfl, ?_⟩) ?_
        rotate_left
        · (intro W hS; (try dsimp only at hS); clear hS; go_simp; with_reducible rfl)
        try simp only [Act.put, List.getElem_toArray, List.getElem_cons_succ, List.getElem_cons_zero, List.setIfInBounds_toArray, List.set_cons_zero, List.set_cons_succ]
        refine WD_done (by kernel_rfl) ?_ _
        clear hHeld c0 c1 c2 c3 d0 d1 t0 t1 t2 t3 hb3
        have HNF : Hid (∀ x, ¬ FitsAll l x) := Lib.hid fun x' hf => HNo.out hd0.out x' (by rw [← HSn.out]; exact fun u hu => hf u (List.mem_of_mem_take hu))
        go_wp2
        refine bodyPost_ret (v := .tuple #[.agg #[.int .i64 0, .int .i64 0], .int .i64 5]) ?_ rfl ?_
        · simp [results, Try.f26, go_sem, v0, v1]
        · exact ⟨.inr ⟨HNF.out, rfl⟩, (((hb3t.setCell (by simp; omega) _).setCell (by simp; omega) _).setCell (by simp) _).setCell (by simp) _⟩
    · obtain rfl : I = L := by omega
      have HCf : Hid (CInv l A M) := Lib.hid (by have := HC.out; rwa [← HL.out, List.take_length] at this)
      go_wp2
      refine bodyPost_ret (v := .tuple #[.agg #[.int .i64 A, .int .i64 M], .int .i64 0]) ?_ rfl ?_
      · simp [results, Try.f26, go_sem, r0, r1]
      · exact ⟨.inl ⟨A, M, HCf.out, rfl⟩, (hb.setCell (by simp) _).setCell (by simp) _⟩
end Go.Proofs.Ytceocooppjfjjaa
