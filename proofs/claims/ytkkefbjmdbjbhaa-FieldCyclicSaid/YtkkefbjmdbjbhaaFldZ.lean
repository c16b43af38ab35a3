/- The contract of field.Base (printed by gen/wfldz.py). -/
import Derived.Test.YtkkefbjmdbjbhaaFldW
import Derived.Test.YtkkefbjmdbjbhaaFldY
import Derived.Test.YtkkefbjmdbjbhaaRowP
namespace Go.Proofs.Ytkkefbjmdbjbhaa
open Go.RowKit
set_option linter.unusedVariables false
set_option linter.unusedSimpArgs false
set_option maxRecDepth 100000 in
set_option maxHeartbeats 3200000 in
theorem field_Base_bad (p : Int) (f : List Int) (af : Option Addr) (Lf cf : Nat) (w : World) (hf : RowL w af cf f) (hLf : f.length = Lf) (hl : Lf ≤ maxLen) (h : fldE p f ≠ 0) :
    Calls Try.prog 14 #[.int .i64 p, .slice af Lf cf] w fun e w' => e = .returned (.tuple #[.int .i64 0, .int .i64 (fldE p f)]) ∧ Below w.heap.size w w' := by
  have HC := Lib.hid (field_open p f af Lf cf w hf hLf hl)
  unfold maxLen at hl
  obtain ⟨T, hT⟩ : ∃ T, fldE p f = T := ⟨_, rfl⟩
  rw [hT] at h HC ⊢
  have e1 : (T == 0) = false := by simpa using h
  have e2 : (T != 0) = true := by simpa using h
  clear hT hf hLf h
  go_enter Try.func14, Try.ntmps14
  go_wp2_with fail
  refine HC.out.mono ?_
  rintro e w2 ⟨⟨fv, rfl, ho⟩, hb2⟩
  obtain ⟨x0, s0, a0, L0, c0, rfl, hfv⟩ := ho
  have hb4 := below_alloc hb2 (.cells #[.int .i64 x0, .int .i64 s0, .slice a0 L0 c0] 38)
  clear hfv hb2
  go_wp2
  go_ret2
  exact ⟨rfl, hb4⟩
theorem base_fin {P m : Nat} {f : List Int} (h : Fd P m f) {G : Nat} (hG : G < P ^ m) (g0 : 1 ≤ G) (ha : ∀ (j : Nat) (x : Nat × Nat), (M.fac (P ^ m - 1))[j]? = some x → powF P f G ((P ^ m - 1) / x.1) ≠ 1) : OrdF P f G (P ^ m - 1) := by
  have h1 := h.fl.one_lt
  refine h.fl.ord_of (by omega) (h.fl.fermat h.ir hG (by omega)) fun q hq hd => ?_
  obtain ⟨x, hx, rfl⟩ := (M.fac_spec (show 0 < P ^ m - 1 by omega)).all hq hd
  obtain ⟨j, hj, rfl⟩ := List.mem_iff_getElem.1 hx
  exact ha j _ (List.getElem?_eq_getElem hj)
theorem gen_ok {P m : Nat} {f : List Int} (h : Fd P m f) {G : Nat} (ho : OrdF P f G (P ^ m - 1)) {j : Nat} {x : Nat × Nat} (hx : (M.fac (P ^ m - 1))[j]? = some x) : powF P f G ((P ^ m - 1) / x.1) ≠ 1 := by
  have h1 := h.fl.one_lt
  obtain ⟨h2, h3, h4, h5'⟩ := (M.fac_spec (show 0 < P ^ m - 1 by omega)).dvd x (List.mem_of_getElem? hx)
  intro e
  have hd := ho.2.2 _ e
  have hx1 : x.1 ≤ P ^ m - 1 := Nat.le_of_dvd (by omega) (Nat.dvd_trans (by have := Nat.pow_dvd_pow x.1 h3; rwa [Nat.pow_one] at this) h5')
  have := Nat.div_lt_self (show 0 < P ^ m - 1 by omega) (show 1 < x.1 by omega)
  have h5 : 0 < (P ^ m - 1) / x.1 := Nat.div_pos hx1 (by omega)
  have := Nat.le_of_dvd h5 hd
  omega
set_option maxRecDepth 100000 in
set_option maxHeartbeats 6400000 in
theorem field_Base (P m : Nat) (f : List Int) (af : Option Addr) (Lf cf : Nat) (w : World) (hd : Fd P m f) (hf : RowL w af cf f) (hLf : f.length = Lf) (hl : Lf ≤ maxLen) :
    Calls Try.prog 14 #[.int .i64 P, .slice af Lf cf] w fun e w' => (∃ g : Nat, e = .returned (.tuple #[.int .i64 g, .int .i64 0]) ∧ g < P ^ m ∧ g ≠ 0 ∧ OrdF P f g (P ^ m - 1)) ∧ Below w.heap.size w w' := by
  have HC := Lib.hid (field_open P f af Lf cf w hf hLf hl)
  rw [hd.e] at HC
  have HOK := Lib.hid fun fv ho => opv_ok (P := P) (m := m) (f := f) hd.fl (af := af) (Lf := Lf) (cf := cf) (fv := fv) ho
  have hsm := hd.fl.small
  have hon := hd.fl.one_lt
  have HPW := Lib.hid fun (G k : Nat) w h (hG : G < P ^ m) (hk : k ≤ 4096) => field_pow P m f ((P ^ m : Nat) : Int) af Lf cf G k w hd.fl h hLf hG (by omega)
  have HFA := Lib.hid fun w => primes_Factor_nat (P ^ m - 1) w (by omega) (by omega)
  have HBF := Lib.hid fun (G : Nat) (hG : G < P ^ m) (g0 : 1 ≤ G) ha => base_fin hd hG g0 ha
  obtain ⟨r, r1, r2, r3⟩ := hd.fl.generator hd.ir
  have HGO := Lib.hid fun (j : Nat) (x : Nat × Nat) hx => gen_ok hd r3 (j := j) (x := x) hx
  have HFM := Lib.hid fun (j : Nat) (x : Nat × Nat) (hx : (M.fac (P ^ m - 1))[j]? = some x) => (M.fac_spec (show 0 < P ^ m - 1 by omega)).dvd x (List.mem_of_getElem? hx)
  have HF := Lib.hid hf
  unfold maxLen at hl
  obtain ⟨l, hfl⟩ : ∃ l, M.fac (P ^ m - 1) = l := ⟨_, rfl⟩
  obtain ⟨S, hS⟩ : ∃ S, P ^ m = S := ⟨_, rfl⟩
  rw [hfl] at HFA HBF HGO HFM
  rw [hS] at HOK hsm hon HPW HFA HBF HGO r1 r3
  simp only [hS]
  clear hf hLf hfl hS hd r3
  go_enter Try.func14, Try.ntmps14
  go_wp2_with fail
  refine HC.out.mono ?_
  rintro e w2 ⟨⟨fv, rfl, ho⟩, hb2⟩
  obtain rfl := HOK.out fv ho
  clear ho
  obtain ⟨w3, hw3⟩ : ∃ W, W = w2.alloc (.cells #[.int .i64 P, .int .i64 S, .slice af Lf cf] 38) := ⟨_, rfl⟩
  have hA : Below w2.heap.size w2 w3 := by rw [hw3]; exact (Below.refl _ _).alloc (Nat.le_refl _) _
  have F3 : FB w3 w2.heap.size P S af Lf cf := by rw [hw3]; exact FB.new _ _ _ _ _ _
  have hbw := below_two hb2 hA
  obtain ⟨⟨k0, k1, k2⟩, _, _, _⟩ := id F3
  go_wp2_with fail
  rw [← hw3]
  clear hw3 hA hb2
  obtain ⟨B3, hB3⟩ : ∃ B3, w2.heap.size = B3 := ⟨_, rfl⟩
  rw [hB3] at F3 k0 k1 k2 ⊢
  clear hB3
  rw [show (S : Int) - 1 = ((S - 1 : Nat) : Int) by omega]
  refine (HFA.out _).mono ?_
  rintro e w4 ⟨v, rfl, hb4, hown⟩
  replace F3 := F3.below hb4
  obtain ⟨⟨k0, k1, k2⟩, _, _, _⟩ := id F3
  have hbx := below_two hbw hb4
  have HRF := Lib.hid (HF.out.below hbx (Nat.le_refl _))
  obtain ⟨n, hn⟩ : ∃ n, l.length = n := ⟨_, rfl⟩
  have HN := Lib.hid hn
  obtain ⟨va, cp, rfl, hpc⟩ : ∃ (va : Option Addr) (cp : Nat), v = .slice va n cp ∧ (∀ i x, l[i]? = some x → ∃ g, va = some ⟨g, 0, none⟩ ∧ w4.cell? ⟨g, i * 2, none⟩ = some (.int .i64 x.1) ∧ w4.cell? ⟨g, i * 2 + 1, none⟩ = some (.int .i64 x.2)) := by
    rcases rowP_shape hown with ⟨e1, e2⟩ | ⟨g, cap, e1, _, _, _, e2⟩
    · exact ⟨none, 0, by rw [e1, ← hn, e2]; rfl, fun i x hx => by rw [e2] at hx; simp at hx⟩
    · exact ⟨some ⟨g, 0, none⟩, cap, by rw [e1, hn], fun i x hx => ⟨g, rfl, e2 i x hx⟩⟩
  have HPC := Lib.hid hpc
  have hn12 : n ≤ 9223372036854775807 := by
    rcases hown.2 with ⟨_, e2⟩ | ⟨_, cap, _, _, _, _, h4, h5, _⟩
    · omega
    · unfold maxLen at h5; omega
  clear hpc hown hn hbw hb4
  go_wp2_with fail
  go_loopw [10] (fun gv wr => ∃ G : Nat, gv = .int .i64 G ∧ 1 ≤ G ∧ G ≤ r ∧ Below w4.heap.size w4 wr) (fun gv _ => (r - intOf gv).toNat)
  case atStart => exact ⟨1, rfl, by omega, by omega, by first | exact Below.refl _ _ | exact below_drewN (Below.refl _ _) _⟩
  case round =>
    obtain ⟨G, rfl, gl1, gl2, hb⟩ := hrel
    go_wp2
    go_loopw [34, 11] (fun iv tv wr => ∃ (I : Nat) (t : Bool), iv = .int .i64 I ∧ tv = .bool t ∧ I ≤ n ∧ Hid (t = true ↔ ∀ (j : Nat) (x : Nat × Nat), j < I → l[j]? = some x → powF P f G ((S - 1) / x.1) ≠ 1) ∧ Below w4.heap.size w4 wr) (fun iv _ _ => (n - intOf iv).toNat)
    case atStart => exact ⟨0, true, rfl, rfl, Nat.zero_le _, Lib.hid ⟨fun _ j x hj => absurd hj (Nat.not_lt_zero _), fun _ => rfl⟩, by first | exact hb | exact below_drewN hb _⟩
    case round =>
      clear hb
      obtain ⟨I, t, rfl, rfl, hI, HT, hb⟩ := hrel
      by_cases hlt : I < n
      · obtain ⟨x, hx⟩ : ∃ x, l[I]? = some x := ⟨_, List.getElem?_eq_getElem (by rw [HN.out]; omega)⟩
        obtain ⟨g, rfl, c0, c1⟩ := HPC.out I x hx
        have c0 := kept hb c0 (World.block_lt_of_cell? _ _ c0)
        have c1 := kept hb c1 (World.block_lt_of_cell? _ _ c1)
        obtain ⟨_, _, x2, _⟩ := HFM.out I x hx
        have HXI := Lib.hid hx
        obtain ⟨xp, xe⟩ := x
        simp only at c0 c1 x2
        have hdle : (S - 1) / xp ≤ S - 1 := Nat.div_le_self _ _
        have HPWG := Lib.hid fun w h => HPW.out G ((S - 1) / xp) w h (by omega) (by omega)
        have HY : Hid (∃ Y, powF P f G ((S - 1) / xp) = Y) := Lib.hid ⟨_, rfl⟩
        have m3 : ((S : Int) - 1).tdiv xp = (((S - 1) / xp : Nat) : Int) := by rw [show (S : Int) - 1 = ((S - 1 : Nat) : Int) by omega, Int.tdiv_eq_ediv_of_nonneg (by omega)]; norm_cast
        have m4 : ((S : Int) - 1) / xp = (((S - 1) / xp : Nat) : Int) := by rw [show (S : Int) - 1 = ((S - 1 : Nat) : Int) by omega]; norm_cast
        obtain ⟨Y, hY⟩ := HY.out
        rw [hY] at HPWG
        have HYY := Lib.hid hY
        obtain ⟨K, hK⟩ : ∃ K, (S - 1) / xp = K := ⟨_, rfl⟩
        rw [hK] at m3 m4 HPWG hdle
        have m5 : IntKind.i64.wrap ((S : Int) - 1) = (S : Int) - 1 := IntWalk.i64_in _ (by omega)
        have m6 : IntKind.i64.wrap (K : Int) = (K : Int) := IntWalk.i64_in _ (by omega)
        have z2 : ((xp : Int) == 0) = false := by simp; omega
        have z3 : ¬ (xp : Int) = 0 := by omega
        have z4 : ¬ xp = 0 := by omega
        clear hK hx HY hY
        go_wp2_with fail
        obtain ⟨wb, hwb⟩ : ∃ W, W = wr.alloc (.cells #[.int .i64 xp, .int .i64 xe] 50) := ⟨_, rfl⟩
        have hA : Below wr.heap.size wr wb := by rw [hwb]; exact (Below.refl _ _).alloc (Nat.le_refl _) _
        have kq : wb.cell? ⟨wr.heap.size, 0, none⟩ = some (.int .i64 xp) := by rw [hwb]; simp [go_sem]
        have hbt := below_two hb hA
        rw [← hwb]
        clear hwb hb
        cases t
        case false =>
          go_quiet (fail)
          go_wp2
          go_roundw
          case rel => exact ⟨I + 1, false, by go_num, rfl, hlt, Lib.hid ⟨(fun e => by cases e), fun ha => by
            have := HT.out.2 fun j x hj => ha j x (by omega)
            cases this⟩, by first | exact hbt | exact below_drewN hbt _⟩
          case measure => simp [intOf]; omega
        case true =>
          obtain ⟨⟨k0, k1, k2⟩, _, _, _⟩ := id (F3.below hbt)
          by_cases hY1 : Y = 1
          · subst hY1
            refine wp_region_D (S := (fun W : World => Below wb.heap.size wb W)) (fun _ => true) (by kernel_rfl) (Below.refl _ _).drew (fun hHeld => ?_)
            simp only [List.size_toArray, List.length_cons, List.length_nil, Nat.reduceAdd, Array.replicate_succ, Array.replicate_zero, List.push_toArray, List.append_toArray, List.nil_append, List.cons_append]
            refine WD_free (i := 0) (oi := _) (v := ?_) rfl (by kernel_rfl) (fun _ _ _ h => h) (Or.inl ⟨by rfl, ?_⟩) ?_
            rotate_left
            · (intro W hS; (try dsimp only at hS); clear hS; go_simp; with_reducible rfl)
            try simp only [Act.put, List.getElem_toArray, List.getElem_cons_succ, List.getElem_cons_zero, List.setIfInBounds_toArray, List.set_cons_zero, List.set_cons_succ]
            refine WD_free (i := 1) (oi := _) (v := ?_) rfl (by kernel_rfl) (fun _ _ _ h => h) (Or.inl ⟨by rfl, ?_⟩) ?_
            rotate_left
            · (intro W hS; (try dsimp only at hS); clear hS; go_simp; with_reducible rfl)
            try simp only [Act.put, List.getElem_toArray, List.getElem_cons_succ, List.getElem_cons_zero, List.setIfInBounds_toArray, List.set_cons_zero, List.set_cons_succ]
            refine WD_take (i := 2) (oi := _) (v := ?_) rfl (by kernel_rfl) (fun _ _ _ h => h) (Or.inl ⟨by rfl, ?_⟩) (by assumption) ?_
            rotate_left
            · (intro W hS; (try dsimp only at hS); have q0 := (hS.cell (p := ⟨B3, 0, none⟩) (World.block_lt_of_cell? _ _ k0)).trans k0; have q1 := (hS.cell (p := ⟨B3, 1, none⟩) (World.block_lt_of_cell? _ _ k1)).trans k1; have q2 := (hS.cell (p := ⟨B3, 2, none⟩) (World.block_lt_of_cell? _ _ k2)).trans k2; clear hS; go_simp; with_reducible rfl)
            try simp only [Act.put, List.getElem_toArray, List.getElem_cons_succ, List.getElem_cons_zero, List.setIfInBounds_toArray, List.set_cons_zero, List.set_cons_succ]
            refine WD_free (i := 3) (oi := _) (v := ?_) rfl (by kernel_rfl) (fun _ _ _ h => h) (Or.inl ⟨by rfl, ?_⟩) ?_
            rotate_left
            · (intro W hS; (try dsimp only at hS); clear hS; go_simp; with_reducible rfl)
            try simp only [Act.put, List.getElem_toArray, List.getElem_cons_succ, List.getElem_cons_zero, List.setIfInBounds_toArray, List.set_cons_zero, List.set_cons_succ]
            refine WD_free (i := 4) (oi := _) (v := ?_) rfl (by kernel_rfl) (fun _ _ _ h => h) (Or.inl ⟨by rfl, ?_⟩) ?_
            rotate_left
            · (intro W hS; (try dsimp only at hS); clear hS; go_simp; with_reducible rfl)
            try simp only [Act.put, List.getElem_toArray, List.getElem_cons_succ, List.getElem_cons_zero, List.setIfInBounds_toArray, List.set_cons_zero, List.set_cons_succ]
            refine WD_take (i := 5) (oi := _) (v := ?_) rfl (by kernel_rfl) (fun _ _ _ h => h) (Or.inl ⟨by rfl, ?_⟩) (by assumption) ?_
            rotate_left
            · (intro W hS; (try dsimp only at hS); have q0 := (hS.cell (p := ⟨B3, 0, none⟩) (World.block_lt_of_cell? _ _ k0)).trans k0; have q1 := (hS.cell (p := ⟨B3, 1, none⟩) (World.block_lt_of_cell? _ _ k1)).trans k1; have q2 := (hS.cell (p := ⟨B3, 2, none⟩) (World.block_lt_of_cell? _ _ k2)).trans k2; clear hS; go_simp; with_reducible rfl)
            try simp only [Act.put, List.getElem_toArray, List.getElem_cons_succ, List.getElem_cons_zero, List.setIfInBounds_toArray, List.set_cons_zero, List.set_cons_succ]
            refine WD_free (i := 6) (oi := _) (v := ?_) rfl (by kernel_rfl) (fun _ _ _ h => h) (Or.inl ⟨by rfl, ?_⟩) ?_
            rotate_left
            · (intro W hS; (try dsimp only at hS); clear hS; go_simp; with_reducible rfl)
            try simp only [Act.put, List.getElem_toArray, List.getElem_cons_succ, List.getElem_cons_zero, List.setIfInBounds_toArray, List.set_cons_zero, List.set_cons_succ]
            refine WD_free (i := 7) (oi := _) (v := ?_) rfl (by kernel_rfl) (fun _ _ _ h => h) (Or.inl ⟨by rfl, ?_⟩) ?_
            rotate_left
            · (intro W hS; (try dsimp only at hS); clear hS; go_simp; with_reducible rfl)
            try simp only [Act.put, List.getElem_toArray, List.getElem_cons_succ, List.getElem_cons_zero, List.setIfInBounds_toArray, List.set_cons_zero, List.set_cons_succ]
            refine WD_take (i := 8) (oi := _) (v := ?_) rfl (by kernel_rfl) (fun _ _ _ h => h) (Or.inl ⟨by rfl, ?_⟩) (by assumption) ?_
            rotate_left
            · (intro W hS; (try dsimp only at hS); have qx := (hS.cell (p := ⟨wr.heap.size, 0, none⟩) (World.block_lt_of_cell? _ _ kq)).trans kq; clear hS; go_simp; with_reducible rfl)
            try simp only [Act.put, List.getElem_toArray, List.getElem_cons_succ, List.getElem_cons_zero, List.setIfInBounds_toArray, List.set_cons_zero, List.set_cons_succ]
            refine WD_free (i := 9) (oi := _) (v := ?_) rfl (by kernel_rfl) (fun _ _ _ h => h) (Or.inl ⟨by rfl, ?_⟩) ?_
            rotate_left
            · (intro W hS; (try dsimp only at hS); clear hS; go_simp; with_reducible rfl)
            try simp only [Act.put, List.getElem_toArray, List.getElem_cons_succ, List.getElem_cons_zero, List.setIfInBounds_toArray, List.set_cons_zero, List.set_cons_succ]
            refine WD_step (i := 10) (o := _) rfl (by kernel_rfl) (fun K hK => ?_)
            go_simp
            refine (HPWG.out _ (HRF.out.below (below_two hbt hHeld) (Nat.le_refl _))).mono ?_
            rintro e w5 ⟨rfl, hb5⟩
            go_wp2_with fail
            replace hHeld := below_two hHeld hb5
            refine hK.out _ _ (fun _ _ => hHeld) ?_
            clear hK K
            try simp only [Act.put, List.getElem_toArray, List.getElem_cons_succ, List.getElem_cons_zero, List.setIfInBounds_toArray, List.set_cons_zero, List.set_cons_succ]
            refine WD_free (i := 11) (oi := _) (v := ?_) rfl (by kernel_rfl) (fun _ _ _ h => h) (Or.inl ⟨by rfl, ?_⟩) ?_
            rotate_left
            · (intro W hS; (try dsimp only at hS); clear hS; go_simp; with_reducible rfl)
            try simp only [Act.put, List.getElem_toArray, List.getElem_cons_succ, List.getElem_cons_zero, List.setIfInBounds_toArray, List.set_cons_zero, List.set_cons_succ]
            refine WD_free (i := 12) (oi := _) (v := ?_) rfl (by kernel_rfl) (fun _ _ _ h => h) (Or.inl ⟨by rfl, ?_⟩) ?_
            rotate_left
            · (intro W hS; (try dsimp only at hS); clear hS; go_simp; with_reducible rfl)
            try simp only [Act.put, List.getElem_toArray, List.getElem_cons_succ, List.getElem_cons_zero, List.setIfInBounds_toArray, List.set_cons_zero, List.set_cons_succ]
            refine WD_free (i := 13) (oi := _) (v := ?_) rfl (by kernel_rfl) (fun _ _ _ h => h) (Or.inl ⟨by rfl, ?_⟩) ?_
            rotate_left
            · (intro W hS; (try dsimp only at hS); clear hS; go_simp; with_reducible rfl)
            try simp only [Act.put, List.getElem_toArray, List.getElem_cons_succ, List.getElem_cons_zero, List.setIfInBounds_toArray, List.set_cons_zero, List.set_cons_succ]
            refine WD_done (by kernel_rfl) ?_ _
            have hbz := below_two hbt hHeld
            clear hHeld k0 k1 k2 kq
            go_wp2
            go_roundw
            case rel => exact ⟨I + 1, false, by go_num, rfl, hlt, Lib.hid ⟨(fun e => by cases e), fun ha => absurd HYY.out (ha I _ (by omega) HXI.out)⟩, hbz⟩
            case measure => simp [intOf]; omega
          · have y1 : ((Y : Int) == 1) = false := by simp; omega
            have y2 : ¬ (Y : Int) = 1 := by omega
            have y3 : ((Y : Int) != 1) = true := by simp; omega
            refine wp_region_D (S := (fun W : World => Below wb.heap.size wb W)) (fun _ => true) (by kernel_rfl) (Below.refl _ _).drew (fun hHeld => ?_)
            simp only [List.size_toArray, List.length_cons, List.length_nil, Nat.reduceAdd, Array.replicate_succ, Array.replicate_zero, List.push_toArray, List.append_toArray, List.nil_append, List.cons_append]
            refine WD_free (i := 0) (oi := _) (v := ?_) rfl (by kernel_rfl) (fun _ _ _ h => h) (Or.inl ⟨by rfl, ?_⟩) ?_
            rotate_left
            · (intro W hS; (try dsimp only at hS); clear hS; go_simp; with_reducible rfl)
            try simp only [Act.put, List.getElem_toArray, List.getElem_cons_succ, List.getElem_cons_zero, List.setIfInBounds_toArray, List.set_cons_zero, List.set_cons_succ]
            refine WD_free (i := 1) (oi := _) (v := ?_) rfl (by kernel_rfl) (fun _ _ _ h => h) (Or.inl ⟨by rfl, ?_⟩) ?_
            rotate_left
            · (intro W hS; (try dsimp only at hS); clear hS; go_simp; with_reducible rfl)
            try simp only [Act.put, List.getElem_toArray, List.getElem_cons_succ, List.getElem_cons_zero, List.setIfInBounds_toArray, List.set_cons_zero, List.set_cons_succ]
            refine WD_take (i := 2) (oi := _) (v := ?_) rfl (by kernel_rfl) (fun _ _ _ h => h) (Or.inl ⟨by rfl, ?_⟩) (by assumption) ?_
            rotate_left
            · (intro W hS; (try dsimp only at hS); have q0 := (hS.cell (p := ⟨B3, 0, none⟩) (World.block_lt_of_cell? _ _ k0)).trans k0; have q1 := (hS.cell (p := ⟨B3, 1, none⟩) (World.block_lt_of_cell? _ _ k1)).trans k1; have q2 := (hS.cell (p := ⟨B3, 2, none⟩) (World.block_lt_of_cell? _ _ k2)).trans k2; clear hS; go_simp; with_reducible rfl)
            try simp only [Act.put, List.getElem_toArray, List.getElem_cons_succ, List.getElem_cons_zero, List.setIfInBounds_toArray, List.set_cons_zero, List.set_cons_succ]
            refine WD_free (i := 3) (oi := _) (v := ?_) rfl (by kernel_rfl) (fun _ _ _ h => h) (Or.inl ⟨by rfl, ?_⟩) ?_
            rotate_left
            · (intro W hS; (try dsimp only at hS); clear hS; go_simp; with_reducible rfl)
            try simp only [Act.put, List.getElem_toArray, List.getElem_cons_succ, List.getElem_cons_zero, List.setIfInBounds_toArray, List.set_cons_zero, List.set_cons_succ]
            refine WD_free (i := 4) (oi := _) (v := ?_) rfl (by kernel_rfl) (fun _ _ _ h => h) (Or.inl ⟨by rfl, ?_⟩) ?_
            rotate_left
            · (intro W hS; (try dsimp only at hS); clear hS; go_simp; with_reducible rfl)
            try simp only [Act.put, List.getElem_toArray, List.getElem_cons_succ, List.getElem_cons_zero, List.setIfInBounds_toArray, List.set_cons_zero, List.set_cons_succ]
            refine WD_take (i := 5) (oi := _) (v := ?_) rfl (by kernel_rfl) (fun _ _ _ h => h) (Or.inl ⟨by rfl, ?_⟩) (by assumption) ?_
            rotate_left
            · (intro W hS; (try dsimp only at hS); have q0 := (hS.cell (p := ⟨B3, 0, none⟩) (World.block_lt_of_cell? _ _ k0)).trans k0; have q1 := (hS.cell (p := ⟨B3, 1, none⟩) (World.block_lt_of_cell? _ _ k1)).trans k1; have q2 := (hS.cell (p := ⟨B3, 2, none⟩) (World.block_lt_of_cell? _ _ k2)).trans k2; clear hS; go_simp; with_reducible rfl)
            try simp only [Act.put, List.getElem_toArray, List.getElem_cons_succ, List.getElem_cons_zero, List.setIfInBounds_toArray, List.set_cons_zero, List.set_cons_succ]
            refine WD_free (i := 6) (oi := _) (v := ?_) rfl (by kernel_rfl) (fun _ _ _ h => h) (Or.inl ⟨by rfl, ?_⟩) ?_
            rotate_left
            · (intro W hS; (try dsimp only at hS); clear hS; go_simp; with_reducible rfl)
            try simp only [Act.put, List.getElem_toArray, List.getElem_cons_succ, List.getElem_cons_zero, List.setIfInBounds_toArray, List.set_cons_zero, List.set_cons_succ]
            refine WD_free (i := 7) (oi := _) (v := ?_) rfl (by kernel_rfl) (fun _ _ _ h => h) (Or.inl ⟨by rfl, ?_⟩) ?_
            rotate_left
            · (intro W hS; (try dsimp only at hS); clear hS; go_simp; with_reducible rfl)
            try simp only [Act.put, List.getElem_toArray, List.getElem_cons_succ, List.getElem_cons_zero, List.setIfInBounds_toArray, List.set_cons_zero, List.set_cons_succ]
            refine WD_take (i := 8) (oi := _) (v := ?_) rfl (by kernel_rfl) (fun _ _ _ h => h) (Or.inl ⟨by rfl, ?_⟩) (by assumption) ?_
            rotate_left
            · (intro W hS; (try dsimp only at hS); have qx := (hS.cell (p := ⟨wr.heap.size, 0, none⟩) (World.block_lt_of_cell? _ _ kq)).trans kq; clear hS; go_simp; with_reducible rfl)
            try simp only [Act.put, List.getElem_toArray, List.getElem_cons_succ, List.getElem_cons_zero, List.setIfInBounds_toArray, List.set_cons_zero, List.set_cons_succ]
            refine WD_free (i := 9) (oi := _) (v := ?_) rfl (by kernel_rfl) (fun _ _ _ h => h) (Or.inl ⟨by rfl, ?_⟩) ?_
            rotate_left
            · (intro W hS; (try dsimp only at hS); clear hS; go_simp; with_reducible rfl)
            try simp only [Act.put, List.getElem_toArray, List.getElem_cons_succ, List.getElem_cons_zero, List.setIfInBounds_toArray, List.set_cons_zero, List.set_cons_succ]
            refine WD_step (i := 10) (o := _) rfl (by kernel_rfl) (fun K hK => ?_)
            go_simp
            refine (HPWG.out _ (HRF.out.below (below_two hbt hHeld) (Nat.le_refl _))).mono ?_
            rintro e w5 ⟨rfl, hb5⟩
            go_wp2_with fail
            replace hHeld := below_two hHeld hb5
            refine hK.out _ _ (fun _ _ => hHeld) ?_
            clear hK K
            try simp only [Act.put, List.getElem_toArray, List.getElem_cons_succ, List.getElem_cons_zero, List.setIfInBounds_toArray, List.set_cons_zero, List.set_cons_succ]
            refine WD_free (i := 11) (oi := _) (v := ?_) rfl (by kernel_rfl) (fun _ _ _ h => h) (Or.inl ⟨by rfl, ?_⟩) ?_
            rotate_left
            · (intro W hS; (try dsimp only at hS); clear hS; go_simp; with_reducible rfl)
            try simp only [Act.put, List.getElem_toArray, List.getElem_cons_succ, List.getElem_cons_zero, List.setIfInBounds_toArray, List.set_cons_zero, List.set_cons_succ]
            refine WD_free (i := 12) (oi := _) (v := ?_) rfl (by kernel_rfl) (fun _ _ _ h => h) (Or.inl ⟨by rfl, ?_⟩) ?_
            rotate_left
            · (intro W hS; (try dsimp only at hS); clear hS; go_simp; with_reducible rfl)
            try simp only [Act.put, List.getElem_toArray, List.getElem_cons_succ, List.getElem_cons_zero, List.setIfInBounds_toArray, List.set_cons_zero, List.set_cons_succ]
            refine WD_free (i := 13) (oi := _) (v := ?_) rfl (by kernel_rfl) (fun _ _ _ h => h) (Or.inl ⟨by rfl, ?_⟩) ?_
            rotate_left
            · (intro W hS; (try dsimp only at hS); clear hS; go_simp; with_reducible rfl)
            try simp only [Act.put, List.getElem_toArray, List.getElem_cons_succ, List.getElem_cons_zero, List.setIfInBounds_toArray, List.set_cons_zero, List.set_cons_succ]
            refine WD_done (by kernel_rfl) ?_ _
            have hbz := below_two hbt hHeld
            clear hHeld k0 k1 k2 kq
            go_wp2
            go_roundw
            case rel => exact ⟨I + 1, true, by go_num, rfl, hlt, Lib.hid ⟨fun _ j x hj hx => by
              by_cases e : j = I
              · subst e; rw [HXI.out] at hx; cases hx; simp only; rw [HYY.out]; exact hY1
              · exact HT.out.1 (by first | rfl | trivial) j x (by omega) hx, fun _ => rfl⟩, hbz⟩
            case measure => simp [intOf]; omega
      · obtain rfl : I = n := by omega
        cases t
        case false =>
          have hlt3 : G < r := by
            rcases Decidable.em (G < r) with h | h
            · exact h
            · obtain rfl : G = r := by omega
              have := HT.out.2 fun j x _ hx => HGO.out j x hx
              cases this
          go_wp2
          go_roundw
          case rel => exact ⟨G + 1, by go_num, by omega, by omega, hb⟩
          case measure => simp [intOf]; omega
        case true =>
          have HOR := Lib.hid (HBF.out G (by omega) gl1 fun j x hx => HT.out.1 (by first | rfl | trivial) j x (by rw [← HN.out]; exact (List.getElem?_eq_some_iff.1 hx).1) hx)
          go_wp2
          go_ret2
          exact ⟨⟨G, rfl, by omega, by omega, HOR.out⟩, below_two hbx hb⟩
end Go.Proofs.Ytkkefbjmdbjbhaa
