/- Contracts of package curve: Count, Times. -/
import Derived.Test.YtnheboamjfahaaaCur5
import Derived.Test.YtnheboamjfahaaaCurLM
import Derived.Test.YtnheboamjfahaaaSq
namespace Go.Proofs.Ytnheboamjfahaaa
open Go.RowKit
set_option linter.unusedVariables false
set_option linter.unusedSimpArgs false
theorem right_p (p a b x : Int) (w : World) (h : Crv p a b) (x1 : 0 ≤ x) (x2 : x < p) :
    Calls Try.prog 14 #[.agg #[.int .i64 p, .int .i64 a, .int .i64 b], .int .i64 x] w fun e w' => e = .returned (.int .i64 (((x * x % p + a) * x % p + b) % p)) ∧ Below w.heap.size w w' := by
  have := curve_right p.toNat a b x w (by have := h.p5; omega) (by have := h.p1; omega) h.a0 (by rw [h.cast]; exact h.a1) h.b0 (by rw [h.cast]; exact h.b1) x1 (by rw [h.cast]; exact x2)
  rwa [h.cast] at this
set_option maxHeartbeats 1600000 in
theorem curve_Count_bad (p a b : Int) (w : World) (h : ¬ cvE p a b = 0) :
    Calls Try.prog 7 #[.agg #[.int .i64 p, .int .i64 a, .int .i64 b]] w fun e w' => e = .returned (.tuple #[.int .i64 0, .int .i64 (cvE p a b)]) ∧ Below w.heap.size w w' := by
  have HC := Lib.hid fun w => curve_spots_bad p a b none 0 [] w (RowS.nil _ _) (by simp) h
  obtain ⟨x, hx⟩ : ∃ x, cvE p a b = x := ⟨_, rfl⟩
  rw [hx] at h HC ⊢
  clear hx
  have e1 : (x == 0) = false := by simpa using h
  have e2 : (x != 0) = true := by simpa using h
  go_enter Try.func7, Try.ntmps7
  go_wp2_with fail
  refine (HC.out _).mono ?_
  rintro e w1 ⟨rfl, hb1⟩
  have hbw := below_two ((Below.refl _ _).alloc (Nat.le_refl _) _) hb1
  go_wp2
  go_ret2
  exact ⟨rfl, below_two hbw ((Below.refl _ _).alloc (Nat.le_refl _) _)⟩
set_option maxRecDepth 100000 in
set_option maxHeartbeats 3200000 in
theorem curve_Count (p a b : Int) (w : World) (h : cvE p a b = 0) :
    Calls Try.prog 7 #[.agg #[.int .i64 p, .int .i64 a, .int .i64 b]] w fun e w' => e = .returned (.tuple #[.int .i64 (cntS p.toNat a b p.toNat), .int .i64 0]) ∧ Below w.heap.size w w' := by
  have HG := Lib.hid (cvE_zero h)
  have HC := Lib.hid fun w => spots_ok p a b none 0 [] w (RowS.nil _ _) (by simp) (spE_of h fun s hs => by simp at hs)
  have p5 := HG.out.p5
  have p1 := HG.out.p1
  have HO : Hid (p % 2 = 1) := Lib.hid (by
    have hp := HG.out.pr
    have hc := HG.out.cast
    rcases Nat.mod_two_eq_zero_or_one p.toNat with e | e
    · rcases hp.2 2 (Nat.dvd_of_mod_eq_zero e) with h | h <;> omega
    · omega)
  clear h
  obtain ⟨N, hN⟩ : ∃ N, p.toNat = N := ⟨_, rfl⟩
  have HN := Lib.hid hN
  rw [hN]
  have n1 : (N : Int) = p := by omega
  have HNC := Lib.hid n1
  clear hN n1
  go_enter Try.func7, Try.ntmps7
  go_wp2_with fail
  refine (HC.out _).mono ?_
  rintro e w1 ⟨rfl, hb1⟩
  have z1 := hb1.size
  simp at z1
  have k0 := kept hb1 (b := w.heap.size) (o := 0) (v := .int .i64 p) (by simp [go_sem]) (by simp [go_sem] <;> omega)
  have hbw := below_two ((Below.refl _ _).alloc (Nat.le_refl _) _) hb1
  clear hb1
  have hA0 : Below w1.heap.size w1 (w1.alloc (.cells #[.int .i64 p, .int .i64 a, .int .i64 b] 39)) := (Below.refl _ _).alloc (Nat.le_refl _) _
  have xk0 := kept hA0 k0 (by omega)
  go_wp2
  obtain ⟨w2, hw2⟩ : ∃ W, W = w1.alloc (.cells #[.int .i64 p, .int .i64 a, .int .i64 b] 39) := ⟨_, rfl⟩
  have c0 : w2.cell? ⟨w1.heap.size, 0, none⟩ = some (.int .i64 p) := by rw [hw2]; simp [go_sem]
  have c1 : w2.cell? ⟨w1.heap.size, 1, none⟩ = some (.int .i64 a) := by rw [hw2]; simp [go_sem]
  have c2 : w2.cell? ⟨w1.heap.size, 2, none⟩ = some (.int .i64 b) := by rw [hw2]; simp [go_sem]
  rw [← hw2] at hA0 xk0 ⊢
  have z2 : w2.heap.size = w1.heap.size + 1 := by rw [hw2]; simp
  clear hw2 k0
  have z3 : w.heap.size < w2.heap.size := by omega
  have z4 : w1.heap.size < w2.heap.size := by omega
  clear z2
  have hbz := below_two hbw hA0
  clear hbw hA0
  go_loopw [6, 18] (fun n i wr => ∃ I : Nat, i = .int .i64 I ∧ I ≤ N ∧ n = .int .i64 (cntS N a b I) ∧ Below w2.heap.size w2 wr) (fun _ i _ => N - (intOf i).toNat)
  case atStart => exact ⟨0, rfl, Nat.zero_le _, rfl, Below.refl _ _⟩
  case round =>
    obtain ⟨I, rfl, hi, rfl, hb⟩ := hrel
    have k0 := kept hb xk0 z3
    have d0 := kept hb c0 z4
    have d1 := kept hb c1 z4
    have d2 := kept hb c2 z4
    have HS : Hid (cntS N a b (I + 1) = cntS N a b I + (1 + M.jac ((((I : Int) * I % p + a) * I % p + b) % p) p)) := Lib.hid (by rw [← HNC.out]; rfl)
    have cb := cntS_bd N a b I
    by_cases hlt : I < N
    · have HR := Lib.hid fun w => right_p p a b I w HG.out (by omega) (by have := HNC.out; omega)
      have lt2 : (I : Int) < p := by have := HNC.out; omega
      obtain ⟨r, hr⟩ : ∃ r, (((I : Int) * I % p + a) * I % p + b) % p = r := ⟨_, rfl⟩
      rw [hr] at HR HS
      have HJ := Lib.hid fun w => squares_Of r p w (by omega) (by omega) HO.out
      have jc := M.jac_cases r p
      obtain ⟨j, hj⟩ : ∃ j, M.jac r p = j := ⟨_, rfl⟩
      rw [hj] at HJ HS jc
      obtain ⟨q, hq⟩ : ∃ q, cntS N a b I = q := ⟨_, rfl⟩
      rw [hq] at HS cb ⊢
      have hN9 : N ≤ 1009 := by have := HNC.out; omega
      have j1 : -1 ≤ j ∧ j ≤ 1 := by omega
      clear hr hj hq jc
      have m1 : IntKind.i64.wrap (1 + j) = 1 + j := IntWalk.i64_in _ (by omega)
      have m2 : IntKind.i64.wrap (q + (1 + j)) = q + (1 + j) := IntWalk.i64_in _ (by omega)
      go_wp2_with fail
      refine wp_region_D (S := (fun W : World => Below wr.heap.size wr W)) (fun _ => true) (by kernel_rfl) (Below.refl _ _).drew (fun hHeld => ?_)
      simp only [List.size_toArray, List.length_cons, List.length_nil, Nat.reduceAdd, Array.replicate_succ, Array.replicate_zero, List.push_toArray, List.append_toArray, List.nil_append, List.cons_append]
      refine WD_free (i := 0) (oi := _) (v := ?_) rfl (by kernel_rfl) (fun _ _ _ h => h) (Or.inl ⟨by rfl, ?_⟩) ?_
      rotate_left
      · (intro W hS; (try dsimp only at hS); clear hS; go_simp; with_reducible rfl)
      try simp only [Act.put, List.getElem_toArray, List.getElem_cons_succ, List.getElem_cons_zero, List.setIfInBounds_toArray, List.set_cons_zero, List.set_cons_succ]
      refine WD_take (i := 1) (oi := _) (v := ?_) rfl (by kernel_rfl) (fun _ _ _ h => h) (Or.inl ⟨by rfl, ?_⟩) (by assumption) ?_
      rotate_left
      · (intro W hS; (try dsimp only at hS); have qd0 := (hS.cell (p := ⟨w1.heap.size, 0, none⟩) (World.block_lt_of_cell? _ _ d0)).trans d0; have qd1 := (hS.cell (p := ⟨w1.heap.size, 1, none⟩) (World.block_lt_of_cell? _ _ d1)).trans d1; have qd2 := (hS.cell (p := ⟨w1.heap.size, 2, none⟩) (World.block_lt_of_cell? _ _ d2)).trans d2; clear hS; go_simp; with_reducible rfl)
      try simp only [Act.put, List.getElem_toArray, List.getElem_cons_succ, List.getElem_cons_zero, List.setIfInBounds_toArray, List.set_cons_zero, List.set_cons_succ]
      refine WD_free (i := 2) (oi := _) (v := ?_) rfl (by kernel_rfl) (fun _ _ _ h => h) (Or.inl ⟨by rfl, ?_⟩) ?_
      rotate_left
      · (intro W hS; (try dsimp only at hS); clear hS; go_simp; with_reducible rfl)
      try simp only [Act.put, List.getElem_toArray, List.getElem_cons_succ, List.getElem_cons_zero, List.setIfInBounds_toArray, List.set_cons_zero, List.set_cons_succ]
      refine WD_free (i := 4) (oi := _) (v := ?_) rfl (by kernel_rfl) (fun _ _ _ h => h) (Or.inl ⟨by rfl, ?_⟩) ?_
      rotate_left
      · (intro W hS; (try dsimp only at hS); clear hS; go_simp; with_reducible rfl)
      try simp only [Act.put, List.getElem_toArray, List.getElem_cons_succ, List.getElem_cons_zero, List.setIfInBounds_toArray, List.set_cons_zero, List.set_cons_succ]
      refine WD_take (i := 5) (oi := _) (v := ?_) rfl (by kernel_rfl) (fun _ _ _ h => h) (Or.inl ⟨by rfl, ?_⟩) (by assumption) ?_
      rotate_left
      · (intro W hS; (try dsimp only at hS); have qk0 := (hS.cell (p := ⟨w.heap.size, 0, none⟩) (World.block_lt_of_cell? _ _ k0)).trans k0; clear hS; go_simp; with_reducible rfl)
      try simp only [Act.put, List.getElem_toArray, List.getElem_cons_succ, List.getElem_cons_zero, List.setIfInBounds_toArray, List.set_cons_zero, List.set_cons_succ]
      refine WD_step (i := 3) (o := _) rfl (by kernel_rfl) (fun K hK => ?_)
      go_simp
      refine (HR.out _).mono ?_
      rintro e w5 ⟨rfl, hb5⟩
      go_wp2_with fail
      replace hHeld := below_two hHeld hb5
      refine hK.out _ _ (fun _ _ => hHeld) ?_
      clear hK K
      try simp only [Act.put, List.getElem_toArray, List.getElem_cons_succ, List.getElem_cons_zero, List.setIfInBounds_toArray, List.set_cons_zero, List.set_cons_succ]
      refine WD_step (i := 6) (o := _) rfl (by kernel_rfl) (fun K hK => ?_)
      go_simp
      refine (HJ.out _).mono ?_
      rintro e w6 ⟨rfl, rfl⟩
      go_wp2_with fail
      replace hHeld := hHeld
      refine hK.out _ _ (fun _ _ => hHeld) ?_
      clear hK K
      try simp only [Act.put, List.getElem_toArray, List.getElem_cons_succ, List.getElem_cons_zero, List.setIfInBounds_toArray, List.set_cons_zero, List.set_cons_succ]
      refine WD_free (i := 7) (oi := _) (v := ?_) rfl (by kernel_rfl) (fun _ _ _ h => h) (Or.inl ⟨by rfl, ?_⟩) ?_
      rotate_left
      · (intro W hS; (try dsimp only at hS); clear hS; go_simp; with_reducible rfl)
      try simp only [Act.put, List.getElem_toArray, List.getElem_cons_succ, List.getElem_cons_zero, List.setIfInBounds_toArray, List.set_cons_zero, List.set_cons_succ]
      refine WD_free (i := 8) (oi := _) (v := ?_) rfl (by kernel_rfl) (fun _ _ _ h => h) (Or.inl ⟨by rfl, ?_⟩) ?_
      rotate_left
      · (intro W hS; (try dsimp only at hS); clear hS; go_simp; with_reducible rfl)
      try simp only [Act.put, List.getElem_toArray, List.getElem_cons_succ, List.getElem_cons_zero, List.setIfInBounds_toArray, List.set_cons_zero, List.set_cons_succ]
      refine WD_free (i := 9) (oi := _) (v := ?_) rfl (by kernel_rfl) (fun _ _ _ h => h) (Or.inl ⟨by rfl, ?_⟩) ?_
      rotate_left
      · (intro W hS; (try dsimp only at hS); clear hS; go_simp; with_reducible rfl)
      try simp only [Act.put, List.getElem_toArray, List.getElem_cons_succ, List.getElem_cons_zero, List.setIfInBounds_toArray, List.set_cons_zero, List.set_cons_succ]
      refine WD_done (by kernel_rfl) ?_ _
      go_wp2
      go_roundw
      case rel => exact ⟨I + 1, by go_num, by omega, by rw [HS.out], below_two hb hHeld⟩
      case measure => simp [intOf]; omega
    · obtain rfl : I = N := by omega
      have ge2 : ¬ (I : Int) < p := by have := HNC.out; omega
      go_wp2
      go_ret2
      exact ⟨rfl, below_two hbz hb⟩
def C3 (W : World) (b : Nat) (s : Sp) : Prop := (W.cell? ⟨b, 0, none⟩ = some (.int .i64 s.x) ∧ W.cell? ⟨b, 1, none⟩ = some (.int .i64 s.y) ∧ W.cell? ⟨b, 2, none⟩ = some (.bool s.far)) ∧ W.frozen? ⟨b, 0, none⟩ = false ∧ W.frozen? ⟨b, 1, none⟩ = false ∧ W.frozen? ⟨b, 2, none⟩ = false
theorem C3.below {W W' : World} {b : Nat} {s : Sp} (h : C3 W b s) (hb : Below W.heap.size W W') (hl : b < W.heap.size) : C3 W' b s :=
  ⟨⟨kept hb h.1.1 hl, kept hb h.1.2.1 hl, kept hb h.1.2.2 hl⟩, (froz hb hl).trans h.2.1, (froz hb hl).trans h.2.2.1, (froz hb hl).trans h.2.2.2⟩
theorem C3.lt {W : World} {b : Nat} {s : Sp} (h : C3 W b s) : b < W.heap.size := World.block_lt_of_cell? _ _ h.1.1
theorem cell_set_other {W : World} {b b' : Nat} {o o' : Nat} {v : Value} (h : b ≠ b') : (W.setCell ⟨b, o, none⟩ v).cell? ⟨b', o', none⟩ = W.cell? ⟨b', o', none⟩ := by
  simp [go_sem, h, Ne.symm h]
end Go.Proofs.Ytnheboamjfahaaa
