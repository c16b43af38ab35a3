/- The contract of shift.massey. -/
import Derived.Test.YteggmpogcpceeaaShi3
import Derived.Test.YteggmpogcpceeaaShiW
import Derived.Test.YteggmpogcpceeaaHold
namespace Go.Proofs.Yteggmpogcpceeaa
open Go.RowKit
set_option linter.unusedVariables false
set_option linter.unusedSimpArgs false
/-- two words in a box -/
def Two (W : World) (b C : Nat) : Prop := W.cell? ⟨b, 0, none⟩ = some (.int .u64 (C % 18446744073709551616 : Nat)) ∧ W.cell? ⟨b, 1, none⟩ = some (.int .u64 (C / 18446744073709551616 : Nat)) ∧ W.frozen? ⟨b, 0, none⟩ = false ∧ W.frozen? ⟨b, 1, none⟩ = false
theorem cell_set_far {W : World} {b b' o o' : Nat} (v : Value) (h : ¬ b = b') : (W.setCell ⟨b, o, none⟩ v).cell? ⟨b', o', none⟩ = W.cell? ⟨b', o', none⟩ := by
  have := Below.heap_setCell W ⟨b, o, none⟩ v b' (fun e => h e.symm)
  simp only [World.cell?, this]
theorem cell_drew (W : World) (a : Addr) : W.drew.cell? a = W.cell? a := by simp [go_sem]
theorem xor_u64 (a b : Nat) (ha : a < 18446744073709551616) (hb : b < 18446744073709551616) : bits .xor .u64 (a : Int) (b : Int) = ((a ^^^ b : Nat) : Int) := u64_xor_nat a b ha hb
set_option maxRecDepth 100000 in
set_option maxHeartbeats 6400000 in
theorem shift_massey (a : Option Addr) (c : Nat) (xs : List Bool) (w : World) (h : RowT w a c xs) (hl : xs.length ≤ 64) :
    Calls Try.prog 10 #[.slice a xs.length c] w fun e w' => (∃ (u : Int) (L : Nat), e = .returned (.tuple #[.int .u64 u, .int .i64 L]) ∧ ∃ C B k, Sh.Inv (fun i => xs.getD i false) xs.length C B L k) ∧ Below w.heap.size w w' := by
  have HR := Lib.hid h
  obtain ⟨N, hN⟩ : ∃ N, N = xs.length := ⟨_, rfl⟩
  have HN := Lib.hid hN
  rw [← hN] at hl ⊢
  obtain ⟨s, hs⟩ : ∃ s : Nat → Bool, (fun i => xs.getD i false) = s := ⟨_, rfl⟩
  have HS := Lib.hid hs
  rw [hs]
  have HB := Lib.hid (Sh.Inv.begin s)
  clear h hN hs
  go_enter Try.func10, Try.ntmps10
  go_wp2
  go_loopw [6, 7, 16] (fun sv kv iv wr => ∃ I L k C B : Nat, iv = .int .i64 I ∧ I ≤ N ∧ sv = .int .i64 L ∧ kv = .int .i64 k ∧ Hid (Sh.Inv s I C.testBit B.testBit L k) ∧ Below w.heap.size w wr ∧ w.heap.size + 1 < wr.heap.size ∧ Two wr w.heap.size C ∧ Two wr (w.heap.size + 1) B) (fun _ _ iv _ => (N - (intOf iv).toNat))
  case atStart => exact ⟨0, 0, 1, 1, 1, rfl, Nat.zero_le _, rfl, rfl, HB, ((Below.refl _ _).alloc (Nat.le_refl _) _).alloc (by simp) _, by simp, ⟨by simp [go_sem], by simp [go_sem], by simp [go_sem], by simp [go_sem]⟩, ⟨by simp [go_sem], by simp [go_sem], by simp [go_sem], by simp [go_sem]⟩⟩
  case round =>
    obtain ⟨I, L, k, C, B, rfl, hI, rfl, rfl, HI, hb, hz, hC, hBt⟩ := hrel
    have hLI := HI.out.le
    obtain ⟨hk1, hk2⟩ := HI.out.k_pos
    obtain ⟨c0, c1, cf0, cf1⟩ := hC
    obtain ⟨b0, b1, bf0, bf1⟩ := hBt
    by_cases hlt : I < N
    · obtain ⟨x, hx⟩ : ∃ x, xs[I]? = some x := ⟨_, List.getElem?_eq_getElem (by rw [← HN.out]; exact hlt)⟩
      have HSI : Hid (s I = x) := Lib.hid (by rw [← HS.out]; simp [List.getD_eq_getElem?_getD, hx])
      obtain ⟨ab, o, rfl, hcell⟩ := HR.out.shape (by rw [← HN.out]; omega)
      have HCL := Lib.hid hcell
      have hal : ab < w.heap.size := World.block_lt_of_cell? w _ (hcell I x hx)
      have kx := (hb.cell (p := ⟨ab, o + I, none⟩) hal).trans (hcell I x hx)
      clear hcell hx
      go_wp2
      go_loop [9, 10] (fun pv iv => ∃ K : Nat, iv = .int .i64 ((K : Int) + 1) ∧ K ≤ L ∧ pv = .int .u64 (Sh.wordOf (Sh.backF s I) K : Nat)) (fun _ iv => (L + 1 - (intOf iv).toNat))
      case atStart => exact ⟨0, rfl, Nat.zero_le _, rfl⟩
      case round =>
        obtain ⟨K, rfl, hK, rfl⟩ := hrel
        by_cases hkl : K < L
        · obtain ⟨y, hy⟩ : ∃ x, xs[I - 1 - K]? = some x := ⟨_, List.getElem?_eq_getElem (by rw [← HN.out]; omega)⟩
          have HSK : Hid (Sh.backF s I K = y) := Lib.hid (by unfold Sh.backF; rw [← HS.out]; simp [List.getD_eq_getElem?_getD, hy])
          have ky := (hb.cell (p := ⟨ab, o + (I - 1 - K), none⟩) hal).trans (HCL.out _ y hy)
          have m1 : IntKind.i64.wrap ((K : Int) + 1) = (K : Int) + 1 := IntWalk.i64_in _ (by omega)
          have m2 : IntKind.i64.wrap ((I : Int) - ((K : Int) + 1)) = ((I - 1 - K : Nat) : Int) := by rw [IntWalk.i64_in _ (by omega)]; omega
          have m3 : ((I - 1 - K : Nat) : Int) < N := by omega
          have m4 : I - 1 - K < N := by omega
          obtain ⟨J, hJ⟩ : ∃ J, I - 1 - K = J := ⟨_, rfl⟩
          rw [hJ] at m2 m3 m4 ky
          clear hy hJ
          cases y
          · go_wp2
            go_round
            case rel => exact ⟨K + 1, by go_num, by omega, by rw [word_skip HSK.out]⟩
            case measure => simp [intOf]; omega
          · go_wp2
            go_round
            case rel => exact ⟨K + 1, by go_num, by omega, by rw [word_step (by omega) HSK.out]⟩
            case measure => simp [intOf]; omega
        · obtain rfl : K = L := by omega
          have HFI := Lib.hid (Sh.fits (s := s) hLI (by omega) HI.out.c0 HI.out.deg)
          have hC65 : C < 36893488147419103232 := Sh.nat_of_deg (by omega) HI.out.deg
          have hhalf := Sh.half_words hC65
          have hC0l : C % 18446744073709551616 < 18446744073709551616 := Nat.mod_lt _ (by omega)
          have hC1l : C / 18446744073709551616 < 2 := Nat.div_lt_of_lt_mul (by omega)
          obtain ⟨C0, hC0⟩ : ∃ C0, C % 18446744073709551616 = C0 := ⟨_, rfl⟩
          obtain ⟨C1, hC1⟩ : ∃ C1, C / 18446744073709551616 = C1 := ⟨_, rfl⟩
          rw [hC0] at c0 hhalf hC0l
          rw [hC1] at c1 hhalf hC1l
          have HC0 := Lib.hid hC0
          have HC1 := Lib.hid hC1
          have f1 : ((C0 : Int) / 2) = ((C0 / 2 : Nat) : Int) := by omega
          have f2 : IntKind.u64.wrap ((C1 : Int) * 9223372036854775808) = ((C1 * 9223372036854775808 : Nat) : Int) := by
            rw [show ((C1 : Int) * 9223372036854775808) = ((C1 * 9223372036854775808 : Nat) : Int) by omega]; exact u64_in _ (by omega)
          have f3 := u64_or_nat (C0 / 2) (C1 * 9223372036854775808) (by omega) (by omega)
          rw [hhalf] at f3
          have hHl : C / 2 < 18446744073709551616 := by omega
          have hPl := word_lt (f := Sh.backF s I) (I := K) (by omega)
          obtain ⟨H0, hH0⟩ : ∃ H, C0 / 2 = H := ⟨_, rfl⟩
          obtain ⟨H1, hH1⟩ : ∃ H, C1 * 9223372036854775808 = H := ⟨_, rfl⟩
          obtain ⟨P, hP⟩ : ∃ P, Sh.wordOf (Sh.backF s I) K = P := ⟨_, rfl⟩
          rw [hH0] at f1 f3
          rw [hH1] at f2 f3
          rw [hP] at HFI hPl
          rw [hP]
          obtain ⟨H, hH⟩ : ∃ H, C / 2 = H := ⟨_, rfl⟩
          rw [hH] at HFI f3 hHl
          have f4 := u64_and_nat P H hPl hHl
          have hQl : P &&& H < 18446744073709551616 := Nat.lt_of_le_of_lt Nat.and_le_left hPl
          have HO := Lib.hid fun W => shift_odd (P &&& H) W hQl
          obtain ⟨Q, hQ⟩ : ∃ Q, P &&& H = Q := ⟨_, rfl⟩
          rw [hQ] at f4 HO HFI
          obtain ⟨z, hz'⟩ : ∃ z, Sh.dot (fun i => Q.testBit i) (fun _ => true) 64 = z := ⟨_, rfl⟩
          rw [hz', HSI.out] at HFI
          rw [hz'] at HO
          obtain ⟨D, hD⟩ : ∃ D, Sh.disc C.testBit s I = D := ⟨_, rfl⟩
          rw [hD] at HFI
          have HD := Lib.hid hD
          clear hhalf hC0 hC1 hH0 hH1 hP hH hQ hz' hD hC65 hHl hPl hQl
          have zc : w.heap.size < wr.heap.size := by omega
          cases D
          · have e1 : (z == x) = true := HFI.out
            clear HFI
            go_wp2_with fail
            go_quiet ((go_at_call 14; exact quiet_same (HO.out _)))
            go_wp2
            go_roundw
            case rel => exact ⟨I + 1, K, k + 1, C, B, by go_num, by omega, rfl, by go_num, Lib.hid (HI.out.same HD.out), below_drewN hb _, by simpa using hz, ⟨by simp [go_sem, HC0.out, c0], by simp [go_sem, HC1.out, c1], by simp [go_sem, cf0], by simp [go_sem, cf1]⟩, ⟨by simp [go_sem, b0], by simp [go_sem, b1], by simp [go_sem, bf0], by simp [go_sem, bf1]⟩⟩
            case measure => simp [intOf]; omega
          · have e1 : (z == x) = false := HFI.out
            clear HFI
            go_wp2_with fail
            go_quiet ((go_at_call 14; exact quiet_same (HO.out _)))
            obtain ⟨W1, hW1⟩ : ∃ W, W = wr.drewN nq := ⟨_, rfl⟩
            rw [← hW1]
            have hb1 : Below w.heap.size w W1 := by rw [hW1]; exact below_drewN hb _
            have hz1 : w.heap.size + 1 < W1.heap.size := by rw [hW1]; simpa using hz
            replace c0 : W1.cell? ⟨w.heap.size, 0, none⟩ = some (.int .u64 C0) := by rw [hW1]; simp [go_sem, c0]
            replace c1 : W1.cell? ⟨w.heap.size, 1, none⟩ = some (.int .u64 C1) := by rw [hW1]; simp [go_sem, c1]
            replace b0 : W1.cell? ⟨w.heap.size + 1, 0, none⟩ = some (.int .u64 (B % 18446744073709551616 : Nat)) := by rw [hW1]; simp [go_sem, b0]
            replace b1 : W1.cell? ⟨w.heap.size + 1, 1, none⟩ = some (.int .u64 (B / 18446744073709551616 : Nat)) := by rw [hW1]; simp [go_sem, b1]
            replace cf0 : W1.frozen? ⟨w.heap.size, 0, none⟩ = false := by rw [hW1]; simp [go_sem, cf0]
            replace cf1 : W1.frozen? ⟨w.heap.size, 1, none⟩ = false := by rw [hW1]; simp [go_sem, cf1]
            replace bf0 : W1.frozen? ⟨w.heap.size + 1, 0, none⟩ = false := by rw [hW1]; simp [go_sem, bf0]
            replace bf1 : W1.frozen? ⟨w.heap.size + 1, 1, none⟩ = false := by rw [hW1]; simp [go_sem, bf1]
            clear hW1 hb hz kx zc HO e1 f1 f2 f3 f4
            have hbs : Below w.heap.size w (W1.alloc (.cells #[.int .u64 C0, .int .u64 C1] 37)) := hb1.alloc (by omega) _
            have HAD := Lib.hid (Sh.added_lt HI.out (by omega) HD.out)
            have HUW := Lib.hid (Sh.up_words (C := C) hk1 (by omega) HAD.out)
            have hB0l : B % 18446744073709551616 < 18446744073709551616 := Nat.mod_lt _ (by omega)
            obtain ⟨B0, hB0⟩ : ∃ x, B % 18446744073709551616 = x := ⟨_, rfl⟩
            obtain ⟨B1, hB1⟩ : ∃ x, B / 18446744073709551616 = x := ⟨_, rfl⟩
            have HB0 := Lib.hid hB0
            have HB1 := Lib.hid hB1
            rw [hB0] at b0 hB0l HUW
            rw [hB1] at b1 HUW
            rw [HC0.out, HC1.out] at HUW
            have g1 : IntKind.u64.wrap ((B0 : Int) * (2 : Int) ^ k) = ((B0 * 2 ^ k % 18446744073709551616 : Nat) : Int) := by
              rw [show ((B0 : Int) * (2 : Int) ^ k) = ((B0 * 2 ^ k : Nat) : Int) by norm_cast]; exact u64_mod _
            have g3 : IntKind.u64.wrap ((B1 : Int) * (2 : Int) ^ k) = ((B1 * 2 ^ k % 18446744073709551616 : Nat) : Int) := by
              rw [show ((B1 : Int) * (2 : Int) ^ k) = ((B1 * 2 ^ k : Nat) : Int) by norm_cast]; exact u64_mod _
            have g4 : IntKind.i64.wrap (64 - (k : Int)) = ((64 - k : Nat) : Int) := by rw [IntWalk.i64_in _ (by omega)]; omega
            have g5 : ((B0 : Int) / (2 : Int) ^ (64 - k)) = ((B0 / 2 ^ (64 - k) : Nat) : Int) := by norm_cast
            have hY : B0 / 2 ^ (64 - k) < 18446744073709551616 := Nat.lt_of_le_of_lt (Nat.div_le_self _ _) hB0l
            have hX0 : B0 * 2 ^ k % 18446744073709551616 < 18446744073709551616 := Nat.mod_lt _ (by omega)
            have hX1 : B1 * 2 ^ k % 18446744073709551616 < 18446744073709551616 := Nat.mod_lt _ (by omega)
            obtain ⟨Y, hYe⟩ : ∃ x, B0 / 2 ^ (64 - k) = x := ⟨_, rfl⟩
            obtain ⟨X0, hX0e⟩ : ∃ x, B0 * 2 ^ k % 18446744073709551616 = x := ⟨_, rfl⟩
            obtain ⟨X1, hX1e⟩ : ∃ x, B1 * 2 ^ k % 18446744073709551616 = x := ⟨_, rfl⟩
            obtain ⟨D6, hD6⟩ : ∃ x, 64 - k = x := ⟨_, rfl⟩
            have hD6l : D6 < 64 := by omega
            rw [hYe] at g5 hY HUW
            rw [hX0e] at g1 hX0 HUW
            rw [hX1e] at g3 hX1 HUW
            rw [hD6] at g4 g5
            have g2 := u64_xor_nat C0 X0 hC0l hX0
            have g6 := u64_or_nat X1 Y hX1 hY
            have hZl : X1 ||| Y < 18446744073709551616 := Nat.or_lt_two_pow (n := 64) hX1 hY
            obtain ⟨Z, hZ⟩ : ∃ x, X1 ||| Y = x := ⟨_, rfl⟩
            rw [hZ] at g6 hZl HUW
            have g7 := u64_xor_nat C1 Z (by omega) hZl
            obtain ⟨E0, hE0⟩ : ∃ x, C0 ^^^ X0 = x := ⟨_, rfl⟩
            obtain ⟨E1, hE1⟩ : ∃ x, C1 ^^^ Z = x := ⟨_, rfl⟩
            rw [hE0] at g2 HUW
            rw [hE1] at g7 HUW
            clear hB0 hB1 hYe hX0e hX1e hD6 hZ hE0 hE1 hY hX0 hX1 hZl hB0l hC0l
            go_wp2_with fail
            obtain ⟨bw, hbw⟩ : ∃ x, W1.heap.size = x := ⟨_, rfl⟩
            rw [hbw] at hz1
            obtain ⟨W2, hW2⟩ : ∃ W, W1.alloc (.cells #[.int .u64 C0, .int .u64 C1] 37) = W := ⟨_, rfl⟩
            rw [hW2] at hbs
            rw [hbw, hW2]
            have hzw : bw < W2.heap.size := by rw [← hW2]; simp [hbw]
            replace c0 : W2.cell? ⟨w.heap.size, 0, none⟩ = some (.int .u64 C0) := by rw [← hW2]; exact kept ((Below.refl _ _).alloc (Nat.le_refl _) _) c0 (by omega)
            replace c1 : W2.cell? ⟨w.heap.size, 1, none⟩ = some (.int .u64 C1) := by rw [← hW2]; exact kept ((Below.refl _ _).alloc (Nat.le_refl _) _) c1 (by omega)
            replace b0 : W2.cell? ⟨w.heap.size + 1, 0, none⟩ = some (.int .u64 B0) := by rw [← hW2]; exact kept ((Below.refl _ _).alloc (Nat.le_refl _) _) b0 (by omega)
            replace b1 : W2.cell? ⟨w.heap.size + 1, 1, none⟩ = some (.int .u64 B1) := by rw [← hW2]; exact kept ((Below.refl _ _).alloc (Nat.le_refl _) _) b1 (by omega)
            have a0 : W2.cell? ⟨bw, 0, none⟩ = some (.int .u64 C0) := by rw [← hW2, ← hbw]; simp [go_sem]
            have a1 : W2.cell? ⟨bw, 1, none⟩ = some (.int .u64 C1) := by rw [← hW2, ← hbw]; simp [go_sem]
            have nz : ∀ q : Nat, q < W1.heap.size → ¬ q = W1.heap.size := fun q h => by omega
            replace cf0 : W2.frozen? ⟨w.heap.size, 0, none⟩ = false := by rw [← hW2]; exact (((Below.refl _ _).alloc (Nat.le_refl _) _).frozen (p := ⟨w.heap.size, 0, none⟩) (by show w.heap.size < W1.heap.size; omega)).trans cf0
            replace cf1 : W2.frozen? ⟨w.heap.size, 1, none⟩ = false := by rw [← hW2]; exact (((Below.refl _ _).alloc (Nat.le_refl _) _).frozen (p := ⟨w.heap.size, 1, none⟩) (by show w.heap.size < W1.heap.size; omega)).trans cf1
            replace bf0 : W2.frozen? ⟨w.heap.size + 1, 0, none⟩ = false := by rw [← hW2]; exact (((Below.refl _ _).alloc (Nat.le_refl _) _).frozen (p := ⟨w.heap.size + 1, 0, none⟩) (by show w.heap.size + 1 < W1.heap.size; omega)).trans bf0
            replace bf1 : W2.frozen? ⟨w.heap.size + 1, 1, none⟩ = false := by rw [← hW2]; exact (((Below.refl _ _).alloc (Nat.le_refl _) _).frozen (p := ⟨w.heap.size + 1, 1, none⟩) (by show w.heap.size + 1 < W1.heap.size; omega)).trans bf1
            have z0 : w.heap.size < W2.heap.size := by omega
            have z1 : w.heap.size + 1 < W2.heap.size := by omega
            clear hW2 hbw nz hb1
            refine wp_region_D (S := (fun W : World => Below W2.heap.size W2 W)) (fun j => j != 8) (by kernel_rfl) (Below.refl _ _).drew (fun hHeld => ?_)
            simp only [List.size_toArray, List.length_cons, List.length_nil, Nat.reduceAdd, Array.replicate_succ, Array.replicate_zero, List.push_toArray, List.append_toArray, List.nil_append, List.cons_append]
            refine WD_free (i := 0) (oi := _) (v := ?_) rfl (by kernel_rfl) (fun _ _ _ h => h) (Or.inl ⟨by rfl, ?_⟩) ?_
            rotate_left
            · (intro W hS; (try dsimp only at hS); clear hS; go_simp; with_reducible rfl)
            try simp only [Act.put, List.getElem_toArray, List.getElem_cons_succ, List.getElem_cons_zero, List.setIfInBounds_toArray, List.set_cons_zero, List.set_cons_succ]
            refine WD_take (i := 1) (oi := _) (v := ?_) rfl (by kernel_rfl) (fun _ _ _ h => h) (Or.inl ⟨by rfl, ?_⟩) (by assumption) ?_
            rotate_left
            · (intro W hS; (try dsimp only at hS); have kk := (hS.cell (p := ⟨w.heap.size, 0, none⟩) z0).trans c0; clear hS; go_simp; with_reducible rfl)
            try simp only [Act.put, List.getElem_toArray, List.getElem_cons_succ, List.getElem_cons_zero, List.setIfInBounds_toArray, List.set_cons_zero, List.set_cons_succ]
            refine WD_free (i := 2) (oi := _) (v := ?_) rfl (by kernel_rfl) (fun _ _ _ h => h) (Or.inl ⟨by rfl, ?_⟩) ?_
            rotate_left
            · (intro W hS; (try dsimp only at hS); clear hS; go_simp; with_reducible rfl)
            try simp only [Act.put, List.getElem_toArray, List.getElem_cons_succ, List.getElem_cons_zero, List.setIfInBounds_toArray, List.set_cons_zero, List.set_cons_succ]
            refine WD_take (i := 3) (oi := _) (v := ?_) rfl (by kernel_rfl) (fun _ _ _ h => h) (Or.inl ⟨by rfl, ?_⟩) (by assumption) ?_
            rotate_left
            · (intro W hS; (try dsimp only at hS); have kk := (hS.cell (p := ⟨w.heap.size + 1, 0, none⟩) z1).trans b0; clear hS; go_simp; with_reducible rfl)
            try simp only [Act.put, List.getElem_toArray, List.getElem_cons_succ, List.getElem_cons_zero, List.setIfInBounds_toArray, List.set_cons_zero, List.set_cons_succ]
            refine WD_free (i := 4) (oi := _) (v := ?_) rfl (by kernel_rfl) (fun _ _ _ h => h) (Or.inl ⟨by rfl, ?_⟩) ?_
            rotate_left
            · (intro W hS; (try dsimp only at hS); clear hS; go_simp; with_reducible rfl)
            try simp only [Act.put, List.getElem_toArray, List.getElem_cons_succ, List.getElem_cons_zero, List.setIfInBounds_toArray, List.set_cons_zero, List.set_cons_succ]
            refine WD_free (i := 5) (oi := _) (v := ?_) rfl (by kernel_rfl) (fun _ _ _ h => h) (Or.inl ⟨by rfl, ?_⟩) ?_
            rotate_left
            · (intro W hS; (try dsimp only at hS); clear hS; go_simp; with_reducible rfl)
            try simp only [Act.put, List.getElem_toArray, List.getElem_cons_succ, List.getElem_cons_zero, List.setIfInBounds_toArray, List.set_cons_zero, List.set_cons_succ]
            refine WD_free (i := 6) (oi := _) (v := ?_) rfl (by kernel_rfl) (fun _ _ _ h => h) (Or.inl ⟨by rfl, ?_⟩) ?_
            rotate_left
            · (intro W hS; (try dsimp only at hS); clear hS; go_simp; with_reducible rfl)
            try simp only [Act.put, List.getElem_toArray, List.getElem_cons_succ, List.getElem_cons_zero, List.setIfInBounds_toArray, List.set_cons_zero, List.set_cons_succ]
            refine WD_free (i := 7) (oi := _) (v := ?_) rfl (by kernel_rfl) (fun _ _ _ h => h) (Or.inl ⟨by rfl, ?_⟩) ?_
            rotate_left
            · (intro W hS; (try dsimp only at hS); clear hS; go_simp; with_reducible rfl)
            try simp only [Act.put, List.getElem_toArray, List.getElem_cons_succ, List.getElem_cons_zero, List.setIfInBounds_toArray, List.set_cons_zero, List.set_cons_succ]
            refine WD_step (i := 8) (o := _) rfl (by kernel_rfl) (fun K hK => ?_)
            go_simp
            refine hK.out _ _ (fun h => by cases h) ?_
            clear hK K
            try simp only [Act.put, List.getElem_toArray, List.getElem_cons_succ, List.getElem_cons_zero, List.setIfInBounds_toArray, List.set_cons_zero, List.set_cons_succ]
            refine WD_done (by kernel_rfl) ?_ _
            go_wp2_with fail
            obtain ⟨W3, hW3⟩ : ∃ W, (W2.setCell ⟨w.heap.size, 0, none⟩ (.int .u64 E0)).drew = W := ⟨_, rfl⟩
            rw [hW3]
            have hbs3 : Below w.heap.size w W3 := by rw [← hW3]; exact (hbs.setCell (by simp) _).drew
            have zz : W3.heap.size = W2.heap.size := by rw [← hW3]; simp
            replace c0 : W3.cell? ⟨w.heap.size, 0, none⟩ = some (.int .u64 E0) := by rw [← hW3]; simp [go_sem, c0, z0, z1]
            replace c1 : W3.cell? ⟨w.heap.size, 1, none⟩ = some (.int .u64 C1) := by rw [← hW3]; simp [go_sem, c1]
            replace b0 : W3.cell? ⟨w.heap.size + 1, 0, none⟩ = some (.int .u64 B0) := by rw [← hW3]; simp only [cell_drew]; rw [cell_set_far _ (by omega)]; exact b0
            replace b1 : W3.cell? ⟨w.heap.size + 1, 1, none⟩ = some (.int .u64 B1) := by rw [← hW3]; simp only [cell_drew]; rw [cell_set_far _ (by omega)]; exact b1
            replace a0 : W3.cell? ⟨bw, 0, none⟩ = some (.int .u64 C0) := by rw [← hW3]; simp only [cell_drew]; rw [cell_set_far _ (by omega)]; exact a0
            replace a1 : W3.cell? ⟨bw, 1, none⟩ = some (.int .u64 C1) := by rw [← hW3]; simp only [cell_drew]; rw [cell_set_far _ (by omega)]; exact a1
            replace cf0 : W3.frozen? ⟨w.heap.size, 0, none⟩ = false := by rw [← hW3]; simp [go_sem, cf0]
            replace cf1 : W3.frozen? ⟨w.heap.size, 1, none⟩ = false := by rw [← hW3]; simp [go_sem, cf1]
            replace bf0 : W3.frozen? ⟨w.heap.size + 1, 0, none⟩ = false := by rw [← hW3]; simp [go_sem, bf0]
            replace bf1 : W3.frozen? ⟨w.heap.size + 1, 1, none⟩ = false := by rw [← hW3]; simp [go_sem, bf1]
            rw [← zz] at hzw z0 z1
            clear hW3 zz hbs
            go_wp2_with fail
            refine wp_region_D (S := (fun W : World => Below W3.heap.size W3 W)) (fun j => j != 14) (by kernel_rfl) (Below.refl _ _).drew (fun hHeld => ?_)
            simp only [List.size_toArray, List.length_cons, List.length_nil, Nat.reduceAdd, Array.replicate_succ, Array.replicate_zero, List.push_toArray, List.append_toArray, List.nil_append, List.cons_append]
            refine WD_free (i := 0) (oi := _) (v := ?_) rfl (by kernel_rfl) (fun _ _ _ h => h) (Or.inl ⟨by rfl, ?_⟩) ?_
            rotate_left
            · (intro W hS; (try dsimp only at hS); clear hS; go_simp; with_reducible rfl)
            try simp only [Act.put, List.getElem_toArray, List.getElem_cons_succ, List.getElem_cons_zero, List.setIfInBounds_toArray, List.set_cons_zero, List.set_cons_succ]
            refine WD_take (i := 1) (oi := _) (v := ?_) rfl (by kernel_rfl) (fun _ _ _ h => h) (Or.inl ⟨by rfl, ?_⟩) (by assumption) ?_
            rotate_left
            · (intro W hS; (try dsimp only at hS); have kk := (hS.cell (p := ⟨w.heap.size, 1, none⟩) z0).trans c1; clear hS; go_simp; with_reducible rfl)
            try simp only [Act.put, List.getElem_toArray, List.getElem_cons_succ, List.getElem_cons_zero, List.setIfInBounds_toArray, List.set_cons_zero, List.set_cons_succ]
            refine WD_free (i := 2) (oi := _) (v := ?_) rfl (by kernel_rfl) (fun _ _ _ h => h) (Or.inl ⟨by rfl, ?_⟩) ?_
            rotate_left
            · (intro W hS; (try dsimp only at hS); clear hS; go_simp; with_reducible rfl)
            try simp only [Act.put, List.getElem_toArray, List.getElem_cons_succ, List.getElem_cons_zero, List.setIfInBounds_toArray, List.set_cons_zero, List.set_cons_succ]
            refine WD_take (i := 3) (oi := _) (v := ?_) rfl (by kernel_rfl) (fun _ _ _ h => h) (Or.inl ⟨by rfl, ?_⟩) (by assumption) ?_
            rotate_left
            · (intro W hS; (try dsimp only at hS); have kk := (hS.cell (p := ⟨w.heap.size + 1, 1, none⟩) z1).trans b1; clear hS; go_simp; with_reducible rfl)
            try simp only [Act.put, List.getElem_toArray, List.getElem_cons_succ, List.getElem_cons_zero, List.setIfInBounds_toArray, List.set_cons_zero, List.set_cons_succ]
            refine WD_free (i := 4) (oi := _) (v := ?_) rfl (by kernel_rfl) (fun _ _ _ h => h) (Or.inl ⟨by rfl, ?_⟩) ?_
            rotate_left
            · (intro W hS; (try dsimp only at hS); clear hS; go_simp; with_reducible rfl)
            try simp only [Act.put, List.getElem_toArray, List.getElem_cons_succ, List.getElem_cons_zero, List.setIfInBounds_toArray, List.set_cons_zero, List.set_cons_succ]
            refine WD_free (i := 5) (oi := _) (v := ?_) rfl (by kernel_rfl) (fun _ _ _ h => h) (Or.inl ⟨by rfl, ?_⟩) ?_
            rotate_left
            · (intro W hS; (try dsimp only at hS); clear hS; go_simp; with_reducible rfl)
            try simp only [Act.put, List.getElem_toArray, List.getElem_cons_succ, List.getElem_cons_zero, List.setIfInBounds_toArray, List.set_cons_zero, List.set_cons_succ]
            refine WD_free (i := 6) (oi := _) (v := ?_) rfl (by kernel_rfl) (fun _ _ _ h => h) (Or.inl ⟨by rfl, ?_⟩) ?_
            rotate_left
            · (intro W hS; (try dsimp only at hS); clear hS; go_simp; with_reducible rfl)
            try simp only [Act.put, List.getElem_toArray, List.getElem_cons_succ, List.getElem_cons_zero, List.setIfInBounds_toArray, List.set_cons_zero, List.set_cons_succ]
            refine WD_take (i := 7) (oi := _) (v := ?_) rfl (by kernel_rfl) (fun _ _ _ h => h) (Or.inl ⟨by rfl, ?_⟩) (by assumption) ?_
            rotate_left
            · (intro W hS; (try dsimp only at hS); have kk := (hS.cell (p := ⟨w.heap.size + 1, 0, none⟩) z1).trans b0; clear hS; go_simp; with_reducible rfl)
            try simp only [Act.put, List.getElem_toArray, List.getElem_cons_succ, List.getElem_cons_zero, List.setIfInBounds_toArray, List.set_cons_zero, List.set_cons_succ]
            refine WD_free (i := 8) (oi := _) (v := ?_) rfl (by kernel_rfl) (fun _ _ _ h => h) (Or.inl ⟨by rfl, ?_⟩) ?_
            rotate_left
            · (intro W hS; (try dsimp only at hS); clear hS; go_simp; with_reducible rfl)
            try simp only [Act.put, List.getElem_toArray, List.getElem_cons_succ, List.getElem_cons_zero, List.setIfInBounds_toArray, List.set_cons_zero, List.set_cons_succ]
            refine WD_free (i := 9) (oi := _) (v := ?_) rfl (by kernel_rfl) (fun _ _ _ h => h) (Or.inl ⟨by rfl, ?_⟩) ?_
            rotate_left
            · (intro W hS; (try dsimp only at hS); clear hS; go_simp; with_reducible rfl)
            try simp only [Act.put, List.getElem_toArray, List.getElem_cons_succ, List.getElem_cons_zero, List.setIfInBounds_toArray, List.set_cons_zero, List.set_cons_succ]
            refine WD_free (i := 10) (oi := _) (v := ?_) rfl (by kernel_rfl) (fun _ _ _ h => h) (Or.inl ⟨by rfl, ?_⟩) ?_
            rotate_left
            · (intro W hS; (try dsimp only at hS); clear hS; go_simp; with_reducible rfl)
            try simp only [Act.put, List.getElem_toArray, List.getElem_cons_succ, List.getElem_cons_zero, List.setIfInBounds_toArray, List.set_cons_zero, List.set_cons_succ]
            refine WD_free (i := 11) (oi := _) (v := ?_) rfl (by kernel_rfl) (fun _ _ _ h => h) (Or.inl ⟨by rfl, ?_⟩) ?_
            rotate_left
            · (intro W hS; (try dsimp only at hS); clear hS; go_simp; with_reducible rfl)
            try simp only [Act.put, List.getElem_toArray, List.getElem_cons_succ, List.getElem_cons_zero, List.setIfInBounds_toArray, List.set_cons_zero, List.set_cons_succ]
            refine WD_free (i := 12) (oi := _) (v := ?_) rfl (by kernel_rfl) (fun _ _ _ h => h) (Or.inl ⟨by rfl, ?_⟩) ?_
            rotate_left
            · (intro W hS; (try dsimp only at hS); clear hS; go_simp; with_reducible rfl)
            try simp only [Act.put, List.getElem_toArray, List.getElem_cons_succ, List.getElem_cons_zero, List.setIfInBounds_toArray, List.set_cons_zero, List.set_cons_succ]
            refine WD_free (i := 13) (oi := _) (v := ?_) rfl (by kernel_rfl) (fun _ _ _ h => h) (Or.inl ⟨by rfl, ?_⟩) ?_
            rotate_left
            · (intro W hS; (try dsimp only at hS); clear hS; go_simp; with_reducible rfl)
            try simp only [Act.put, List.getElem_toArray, List.getElem_cons_succ, List.getElem_cons_zero, List.setIfInBounds_toArray, List.set_cons_zero, List.set_cons_succ]
            refine WD_step (i := 14) (o := _) rfl (by kernel_rfl) (fun K hK => ?_)
            go_simp
            refine hK.out _ _ (fun h => by cases h) ?_
            clear hK K
            try simp only [Act.put, List.getElem_toArray, List.getElem_cons_succ, List.getElem_cons_zero, List.setIfInBounds_toArray, List.set_cons_zero, List.set_cons_succ]
            refine WD_done (by kernel_rfl) ?_ _
            obtain ⟨W4, hW4⟩ : ∃ W, (W3.setCell ⟨w.heap.size, 1, none⟩ (.int .u64 E1)).drew = W := ⟨_, rfl⟩
            rw [hW4]
            have hbs4 : Below w.heap.size w W4 := by rw [← hW4]; exact (hbs3.setCell (by simp) _).drew
            have zz : W4.heap.size = W3.heap.size := by rw [← hW4]; simp
            replace c0 : W4.cell? ⟨w.heap.size, 0, none⟩ = some (.int .u64 E0) := by rw [← hW4]; simp [go_sem, c0]
            replace c1 : W4.cell? ⟨w.heap.size, 1, none⟩ = some (.int .u64 E1) := by rw [← hW4]; simp [go_sem, c1, z0, z1]
            replace b0 : W4.cell? ⟨w.heap.size + 1, 0, none⟩ = some (.int .u64 B0) := by rw [← hW4]; simp only [cell_drew]; rw [cell_set_far _ (by omega)]; exact b0
            replace b1 : W4.cell? ⟨w.heap.size + 1, 1, none⟩ = some (.int .u64 B1) := by rw [← hW4]; simp only [cell_drew]; rw [cell_set_far _ (by omega)]; exact b1
            replace a0 : W4.cell? ⟨bw, 0, none⟩ = some (.int .u64 C0) := by rw [← hW4]; simp only [cell_drew]; rw [cell_set_far _ (by omega)]; exact a0
            replace a1 : W4.cell? ⟨bw, 1, none⟩ = some (.int .u64 C1) := by rw [← hW4]; simp only [cell_drew]; rw [cell_set_far _ (by omega)]; exact a1
            replace cf0 : W4.frozen? ⟨w.heap.size, 0, none⟩ = false := by rw [← hW4]; simp [go_sem, cf0]
            replace cf1 : W4.frozen? ⟨w.heap.size, 1, none⟩ = false := by rw [← hW4]; simp [go_sem, cf1]
            replace bf0 : W4.frozen? ⟨w.heap.size + 1, 0, none⟩ = false := by rw [← hW4]; simp [go_sem, bf0]
            replace bf1 : W4.frozen? ⟨w.heap.size + 1, 1, none⟩ = false := by rw [← hW4]; simp [go_sem, bf1]
            rw [← zz] at hzw z0 z1
            clear hW4 zz hbs3
            have z2 : bw < W4.heap.size := hzw
            have HNW : Hid (Two W4 w.heap.size (C ^^^ (B <<< k))) := Lib.hid (by
              unfold Two
              rw [HUW.out.1, HUW.out.2]
              exact ⟨c0, c1, cf0, cf1⟩)
            have HOW : Hid (Two W4 (w.heap.size + 1) B) := Lib.hid (by
              unfold Two
              rw [HB0.out, HB1.out]
              exact ⟨b0, b1, bf0, bf1⟩)
            clear c0 c1 cf0 cf1 g1 g2 g3 g4 g5 g6 g7 hHeld hD6l
            by_cases h2 : 2 * K ≤ I
            · go_wp2_with fail
              refine wp_region_D (S := (fun W : World => Below W4.heap.size W4 W)) (fun j => j != 6) (by kernel_rfl) (Below.refl _ _).drew (fun hHeld => ?_)
              simp only [List.size_toArray, List.length_cons, List.length_nil, Nat.reduceAdd, Array.replicate_succ, Array.replicate_zero, List.push_toArray, List.append_toArray, List.nil_append, List.cons_append]
              refine WD_free (i := 0) (oi := _) (v := ?_) rfl (by kernel_rfl) (fun _ _ _ h => h) (Or.inl ⟨by rfl, ?_⟩) ?_
              rotate_left
              · (intro W hS; (try dsimp only at hS); clear hS; go_simp; with_reducible rfl)
              try simp only [Act.put, List.getElem_toArray, List.getElem_cons_succ, List.getElem_cons_zero, List.setIfInBounds_toArray, List.set_cons_zero, List.set_cons_succ]
              refine WD_free (i := 1) (oi := _) (v := ?_) rfl (by kernel_rfl) (fun _ _ _ h => h) (Or.inl ⟨by rfl, ?_⟩) ?_
              rotate_left
              · (intro W hS; (try dsimp only at hS); clear hS; go_simp; with_reducible rfl)
              try simp only [Act.put, List.getElem_toArray, List.getElem_cons_succ, List.getElem_cons_zero, List.setIfInBounds_toArray, List.set_cons_zero, List.set_cons_succ]
              refine WD_free (i := 2) (oi := _) (v := ?_) rfl (by kernel_rfl) (fun _ _ _ h => h) (Or.inl ⟨by rfl, ?_⟩) ?_
              rotate_left
              · (intro W hS; (try dsimp only at hS); clear hS; go_simp; with_reducible rfl)
              try simp only [Act.put, List.getElem_toArray, List.getElem_cons_succ, List.getElem_cons_zero, List.setIfInBounds_toArray, List.set_cons_zero, List.set_cons_succ]
              refine WD_free (i := 3) (oi := _) (v := ?_) rfl (by kernel_rfl) (fun _ _ _ h => h) (Or.inl ⟨by rfl, ?_⟩) ?_
              rotate_left
              · (intro W hS; (try dsimp only at hS); clear hS; go_simp; with_reducible rfl)
              try simp only [Act.put, List.getElem_toArray, List.getElem_cons_succ, List.getElem_cons_zero, List.setIfInBounds_toArray, List.set_cons_zero, List.set_cons_succ]
              refine WD_take (i := 4) (oi := _) (v := ?_) rfl (by kernel_rfl) (fun _ _ _ h => h) (Or.inl ⟨by rfl, ?_⟩) (by assumption) ?_
              rotate_left
              · (intro W hS; (try dsimp only at hS); have kk := (hS.cell (p := ⟨bw, 0, none⟩) z2).trans a0; have kk2 := (hS.cell (p := ⟨bw, 1, none⟩) z2).trans a1; clear hS; go_simp; with_reducible rfl)
              try simp only [Act.put, List.getElem_toArray, List.getElem_cons_succ, List.getElem_cons_zero, List.setIfInBounds_toArray, List.set_cons_zero, List.set_cons_succ]
              refine WD_free (i := 5) (oi := _) (v := ?_) rfl (by kernel_rfl) (fun _ _ _ h => h) (Or.inl ⟨by rfl, ?_⟩) ?_
              rotate_left
              · (intro W hS; (try dsimp only at hS); clear hS; go_simp; with_reducible rfl)
              try simp only [Act.put, List.getElem_toArray, List.getElem_cons_succ, List.getElem_cons_zero, List.setIfInBounds_toArray, List.set_cons_zero, List.set_cons_succ]
              refine WD_step (i := 6) (o := _) rfl (by kernel_rfl) (fun K hK => ?_)
              go_simp
              refine hK.out _ _ (fun h => by cases h) ?_
              clear hK K
              try simp only [Act.put, List.getElem_toArray, List.getElem_cons_succ, List.getElem_cons_zero, List.setIfInBounds_toArray, List.set_cons_zero, List.set_cons_succ]
              refine WD_free (i := 7) (oi := _) (v := ?_) rfl (by kernel_rfl) (fun _ _ _ h => h) (Or.inl ⟨by rfl, ?_⟩) ?_
              rotate_left
              · (intro W hS; (try dsimp only at hS); clear hS; go_simp; with_reducible rfl)
              try simp only [Act.put, List.getElem_toArray, List.getElem_cons_succ, List.getElem_cons_zero, List.setIfInBounds_toArray, List.set_cons_zero, List.set_cons_succ]
              refine WD_done (by kernel_rfl) ?_ _
              go_wp2_with fail
              go_roundw
              case rel =>
                refine ⟨I + 1, I + 1 - K, 1, C ^^^ (B <<< k), C, by go_num, by omega, ?_, by go_num, Lib.hid (HI.out.grow HD.out h2).word, ((hbs4.setCell (by simp) _).setCell (by simp) _).drew, by simpa using z1, ⟨?_, ?_, ?_, ?_⟩, ?_⟩
                · rw [IntWalk.i64_in ((I : Int) + 1) (by omega), IntWalk.i64_in _ (by omega)]
                  congr 1
                  omega
                · rw [cell_drew, cell_set_far _ (by omega), cell_set_far _ (by omega)]; exact HNW.out.1
                · rw [cell_drew, cell_set_far _ (by omega), cell_set_far _ (by omega)]; exact HNW.out.2.1
                · have := HNW.out.2.2.1; simpa [go_sem] using this
                · have := HNW.out.2.2.2; simpa [go_sem] using this
                · unfold Two
                  rw [HC0.out, HC1.out]
                  exact ⟨by simp [go_sem, b0, b1, z1], by simp [go_sem, b0, b1, z1], by simp [go_sem, bf0, bf1], by simp [go_sem, bf0, bf1]⟩
              case measure => simp [intOf]; omega
            · clear b0 b1 bf0 bf1
              go_wp2
              go_roundw
              case rel => exact ⟨I + 1, K, k + 1, C ^^^ (B <<< k), B, by go_num, by omega, rfl, by go_num, Lib.hid (HI.out.stay HD.out (by omega)).word, hbs4, by omega, HNW.out, HOW.out⟩
              case measure => simp [intOf]; omega
    · obtain rfl : I = N := by omega
      go_wp2
      go_ret2
      exact ⟨⟨_, L, rfl, _, _, _, HI.out⟩, hb⟩
end Go.Proofs.Yteggmpogcpceeaa
