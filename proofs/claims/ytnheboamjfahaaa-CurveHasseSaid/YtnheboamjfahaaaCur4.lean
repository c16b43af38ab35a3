/- Contracts: of the reference: Spot; of package curve: add. -/
import Derived.Test.YtnheboamjfahaaaCur3
namespace Go.Proofs.Ytnheboamjfahaaa
open Go.RowKit
set_option linter.unusedVariables false
set_option linter.unusedSimpArgs false
set_option maxHeartbeats 1600000 in
theorem ref_Spot_far (N : Nat) (A B x y : Int) (w : World) (h : x = 0 ∧ y = 0) :
    Calls Try.prog 16 #[.agg #[.int .i64 N, .int .i64 A, .int .i64 B], .agg #[.int .i64 x, .int .i64 y, .bool true]] w fun e w' => e = .returned (.bool true) ∧ Below w.heap.size w w' := by
  obtain ⟨rfl, rfl⟩ := h
  go_enter Try.func16, Try.ntmps16
  go_wp2
  go_ret
  exact ⟨rfl, by first | exact below_drewN (((Below.refl _ _).alloc (Nat.le_refl _) _).alloc (by simp) _) _ | exact ((Below.refl _ _).alloc (Nat.le_refl _) _).alloc (by simp) _⟩
set_option maxHeartbeats 1600000 in
theorem ref_Spot_nofar (N : Nat) (A B x y : Int) (w : World) (h : ¬ (x = 0 ∧ y = 0)) :
    Calls Try.prog 16 #[.agg #[.int .i64 N, .int .i64 A, .int .i64 B], .agg #[.int .i64 x, .int .i64 y, .bool true]] w fun e w' => e = .returned (.bool false) ∧ Below w.heap.size w w' := by
  by_cases e : x = 0
  · subst e
    have e2 : (y == 0) = false := by simp; omega
    clear h
    go_enter Try.func16, Try.ntmps16
    go_wp2
    go_ret
    exact ⟨rfl, by first | exact below_drewN (((Below.refl _ _).alloc (Nat.le_refl _) _).alloc (by simp) _) _ | exact ((Below.refl _ _).alloc (Nat.le_refl _) _).alloc (by simp) _⟩
  · have e2 : (x == 0) = false := by simpa using e
    clear h e
    go_enter Try.func16, Try.ntmps16
    go_wp2
    go_ret
    exact ⟨rfl, by first | exact below_drewN (((Below.refl _ _).alloc (Nat.le_refl _) _).alloc (by simp) _) _ | exact ((Below.refl _ _).alloc (Nat.le_refl _) _).alloc (by simp) _⟩
set_option maxHeartbeats 1600000 in
theorem ref_Spot_out (N : Nat) (A B x y : Int) (w : World) (h : ¬ (0 ≤ x ∧ x < N ∧ 0 ≤ y ∧ y < N)) :
    Calls Try.prog 16 #[.agg #[.int .i64 N, .int .i64 A, .int .i64 B], .agg #[.int .i64 x, .int .i64 y, .bool false]] w fun e w' => e = .returned (.bool false) ∧ Below w.heap.size w w' := by
  by_cases c1 : x < 0
  · clear h
    go_enter Try.func16, Try.ntmps16
    go_wp2
    go_ret
    exact ⟨rfl, by first | exact below_drewN (((Below.refl _ _).alloc (Nat.le_refl _) _).alloc (by simp) _) _ | exact ((Below.refl _ _).alloc (Nat.le_refl _) _).alloc (by simp) _⟩
  by_cases c2 : (N : Int) ≤ x
  · clear h
    go_enter Try.func16, Try.ntmps16
    go_wp2
    go_ret
    exact ⟨rfl, by first | exact below_drewN (((Below.refl _ _).alloc (Nat.le_refl _) _).alloc (by simp) _) _ | exact ((Below.refl _ _).alloc (Nat.le_refl _) _).alloc (by simp) _⟩
  by_cases c3 : y < 0
  · clear h
    go_enter Try.func16, Try.ntmps16
    go_wp2
    go_ret
    exact ⟨rfl, by first | exact below_drewN (((Below.refl _ _).alloc (Nat.le_refl _) _).alloc (by simp) _) _ | exact ((Below.refl _ _).alloc (Nat.le_refl _) _).alloc (by simp) _⟩
  have c4 : (N : Int) ≤ y := by omega
  clear h
  go_enter Try.func16, Try.ntmps16
  go_wp2
  go_ret
  exact ⟨rfl, by first | exact below_drewN (((Below.refl _ _).alloc (Nat.le_refl _) _).alloc (by simp) _) _ | exact ((Below.refl _ _).alloc (Nat.le_refl _) _).alloc (by simp) _⟩
set_option maxHeartbeats 3200000 in
theorem ref_Spot_in (N : Nat) (A B x y : Int) (w : World) (h1 : 1 ≤ N) (h2 : N ≤ 1048576) (a1 : 0 ≤ A) (a2 : A < N) (b1 : 0 ≤ B) (b2 : B < N) (x1 : 0 ≤ x) (x2 : x < N) (y1 : 0 ≤ y) (y2 : y < N) :
    Calls Try.prog 16 #[.agg #[.int .i64 N, .int .i64 A, .int .i64 B], .agg #[.int .i64 x, .int .i64 y, .bool false]] w fun e w' => e = .returned (.bool (onB N A B ⟨x, y, false⟩)) ∧ Below w.heap.size w w' := by
  have HP := Lib.hid fun w => ref_Pow_n 3 x 3 N w (by omega) (by omega) (by omega) (by omega) (by omega)
  have HE := Lib.hid (@spot_eq N h1 A B x y)
  have HO := Lib.hid (@on_in N A B x y x1 x2 y1 y2)
  have p1 := pw_nonneg x 3 (show 1 ≤ (N : Int) by omega)
  have p2 := pw_lt x 3 (show 1 ≤ (N : Int) by omega)
  obtain ⟨u, hu⟩ : ∃ u, pw x 3 N = u := ⟨_, rfl⟩
  rw [hu] at HP HE p1 p2
  clear hu
  have m1 := mul_lim y1 (by omega) y1 (by omega)
  have m2 : IntKind.i64.wrap (y * y) = y * y := IntWalk.i64_in _ (by omega)
  have n1 := mul_lim a1 (by omega) x1 (by omega)
  have n2 : IntKind.i64.wrap (A * x) = A * x := IntWalk.i64_in _ (by omega)
  have n3 : IntKind.i64.wrap (y * y - u) = y * y - u := IntWalk.i64_in _ (by omega)
  have n4 : IntKind.i64.wrap (y * y - u - A * x) = y * y - u - A * x := IntWalk.i64_in _ (by omega)
  have n5 : IntKind.i64.wrap (y * y - u - A * x - B) = y * y - u - A * x - B := IntWalk.i64_in _ (by omega)
  have HM := Lib.hid fun w => ref_Mod (y * y - u - A * x - B) N w (by omega) (by omega)
  obtain ⟨v, hv⟩ : ∃ v, (y * y - u - A * x - B) % (N : Int) = v := ⟨_, rfl⟩
  rw [hv] at HM HE
  clear hv
  have HT : Hid ((v == 0) = onB N A B ⟨x, y, false⟩) := Lib.hid (by
    cases hT : onB N A B ⟨x, y, false⟩ with
    | true => exact beq_iff_eq.2 (HE.out.2 (HO.out.1 (onB_true hT)))
    | false => exact beq_eq_false_iff_ne.2 fun h => onB_false hT (HO.out.2 (HE.out.1 h)))
  clear HE HO
  obtain ⟨T, hT⟩ : ∃ T, onB N A B ⟨x, y, false⟩ = T := ⟨_, rfl⟩
  rw [hT] at HT ⊢
  clear hT
  go_enter Try.func16, Try.ntmps16
  go_wp2_with fail
  go_quiet ((first | (go_at_call 24; exact quiet_same ((HM.out _).mono fun _ _ h => h)) | (go_at_call 25; exact quiet_same (HP.out _))))
  go_wp2
  go_ret
  exact ⟨by rw [← HT.out]; rfl, by first | exact below_drewN (((Below.refl _ _).alloc (Nat.le_refl _) _).alloc (by simp) _) _ | exact ((Below.refl _ _).alloc (Nat.le_refl _) _).alloc (by simp) _⟩
theorem ref_Spot (N : Nat) (A B : Int) (s : Sp) (w : World) (h1 : 1 ≤ N) (h2 : N ≤ 1048576) (a1 : 0 ≤ A) (a2 : A < N) (b1 : 0 ≤ B) (b2 : B < N) :
    Calls Try.prog 16 #[.agg #[.int .i64 N, .int .i64 A, .int .i64 B], .agg #[.int .i64 s.x, .int .i64 s.y, .bool s.far]] w fun e w' => e = .returned (.bool (onB N A B s)) ∧ Below w.heap.size w w' := by
  obtain ⟨x, y, f⟩ := s
  cases f with
  | true =>
    by_cases h : x = 0 ∧ y = 0
    · rw [onB_yes (.inl ⟨rfl, h.1, h.2⟩)]; exact ref_Spot_far N A B x y w h
    · rw [onB_no (not_on_far h)]; exact ref_Spot_nofar N A B x y w h
  | false =>
    by_cases h : 0 ≤ x ∧ x < N ∧ 0 ≤ y ∧ y < N
    · exact ref_Spot_in N A B x y w h1 h2 a1 a2 b1 b2 h.1 h.2.1 h.2.2.1 h.2.2.2
    · rw [onB_no (not_on_out h)]; exact ref_Spot_out N A B x y w h
set_option maxRecDepth 100000 in
set_option maxHeartbeats 3200000 in
theorem curve_add_far1 (N : Nat) (A B : Int) (x1 y1 x2 y2 : Int) (f2 : Bool) (w : World) :
    Calls Try.prog 17 #[.agg #[.int .i64 N, .int .i64 A, .int .i64 B], .agg #[.int .i64 x1, .int .i64 y1, .bool true], .agg #[.int .i64 x2, .int .i64 y2, .bool f2]] w fun e w' => e = .returned (.agg #[.int .i64 x2, .int .i64 y2, .bool f2]) ∧ Below w.heap.size w w' := by
  go_enter Try.func17, Try.ntmps17
  go_wp2
  refine bodyPost_ret (v := .agg #[.int .i64 x2, .int .i64 y2, .bool f2]) ?_ rfl ?_
  · simp [results, Try.f17, go_sem]
  · exact ⟨rfl, by first | exact ((((Below.refl _ _).alloc (Nat.le_refl _) _).alloc (by simp) _).alloc (by simp; omega) _).alloc (by simp; omega) _ | exact (((((((Below.refl _ _).alloc (Nat.le_refl _) _).alloc (by simp) _).alloc (by simp; omega) _).alloc (by simp; omega) _).setCell (by simp <;> omega) _).setCell (by simp <;> omega) _).setCell (by simp <;> omega) _⟩
set_option maxRecDepth 100000 in
set_option maxHeartbeats 3200000 in
theorem curve_add_far2 (N : Nat) (A B : Int) (x1 y1 x2 y2 : Int) (w : World) :
    Calls Try.prog 17 #[.agg #[.int .i64 N, .int .i64 A, .int .i64 B], .agg #[.int .i64 x1, .int .i64 y1, .bool false], .agg #[.int .i64 x2, .int .i64 y2, .bool true]] w fun e w' => e = .returned (.agg #[.int .i64 x1, .int .i64 y1, .bool false]) ∧ Below w.heap.size w w' := by
  go_enter Try.func17, Try.ntmps17
  go_wp2
  refine bodyPost_ret (v := .agg #[.int .i64 x1, .int .i64 y1, .bool false]) ?_ rfl ?_
  · simp [results, Try.f17, go_sem]
  · exact ⟨rfl, by first | exact ((((Below.refl _ _).alloc (Nat.le_refl _) _).alloc (by simp) _).alloc (by simp; omega) _).alloc (by simp; omega) _ | exact (((((((Below.refl _ _).alloc (Nat.le_refl _) _).alloc (by simp) _).alloc (by simp; omega) _).alloc (by simp; omega) _).setCell (by simp <;> omega) _).setCell (by simp <;> omega) _).setCell (by simp <;> omega) _⟩
set_option maxRecDepth 100000 in
set_option maxHeartbeats 3200000 in
theorem curve_add_opp (N : Nat) (A B : Int) (x y z : Int) (w : World) (h1 : 1 ≤ N) (h2 : N ≤ 1048576) (y1 : 0 ≤ y) (y2 : y < N) (hz : (-y) % (N : Int) = z) :
    Calls Try.prog 17 #[.agg #[.int .i64 N, .int .i64 A, .int .i64 B], .agg #[.int .i64 x, .int .i64 z, .bool false], .agg #[.int .i64 x, .int .i64 y, .bool false]] w fun e w' => e = .returned (.agg #[.int .i64 0, .int .i64 0, .bool true]) ∧ Below w.heap.size w w' := by
  have HN := Lib.hid fun w => curve_neg N A B ⟨x, y, false⟩ w h1 h2 y1 y2
  simp only [negS] at HN
  rw [hz] at HN
  clear hz
  go_enter Try.func17, Try.ntmps17
  go_wp2_with fail
  obtain ⟨w1, hw1⟩ : ∃ W, W = (((w.alloc (.cells #[.int .i64 N, .int .i64 A, .int .i64 B] 39)).alloc (.cells #[.int .i64 x, .int .i64 z, .bool false] 30)).alloc (.cells #[.int .i64 x, .int .i64 y, .bool false] 30)).alloc (.cells #[.int .i64 0, .int .i64 0, .bool false] 30) := ⟨_, rfl⟩
  have k0 : w1.cell? ⟨w.heap.size, 0, none⟩ = some (.int .i64 N) := by rw [hw1]; simp [go_sem]
  have k1 : w1.cell? ⟨w.heap.size, 1, none⟩ = some (.int .i64 A) := by rw [hw1]; simp [go_sem]
  have k2 : w1.cell? ⟨w.heap.size, 2, none⟩ = some (.int .i64 B) := by rw [hw1]; simp [go_sem]
  have s0 : w1.cell? ⟨w.heap.size + 1, 0, none⟩ = some (.int .i64 x) := by rw [hw1]; simp [go_sem]
  have s1 : w1.cell? ⟨w.heap.size + 1, 1, none⟩ = some (.int .i64 z) := by rw [hw1]; simp [go_sem]
  have s2 : w1.cell? ⟨w.heap.size + 1, 2, none⟩ = some (.bool false) := by rw [hw1]; simp [go_sem]
  have t0 : w1.cell? ⟨w.heap.size + 1 + 1, 0, none⟩ = some (.int .i64 x) := by rw [hw1]; simp [go_sem]
  have t1 : w1.cell? ⟨w.heap.size + 1 + 1, 1, none⟩ = some (.int .i64 y) := by rw [hw1]; simp [go_sem]
  have t2 : w1.cell? ⟨w.heap.size + 1 + 1, 2, none⟩ = some (.bool false) := by rw [hw1]; simp [go_sem]
  have r0 : w1.cell? ⟨w.heap.size + 1 + 1 + 1, 0, none⟩ = some (.int .i64 0) := by rw [hw1]; simp [go_sem]
  have r1 : w1.cell? ⟨w.heap.size + 1 + 1 + 1, 1, none⟩ = some (.int .i64 0) := by rw [hw1]; simp [go_sem]
  have r2 : w1.cell? ⟨w.heap.size + 1 + 1 + 1, 2, none⟩ = some (.bool false) := by rw [hw1]; simp [go_sem]
  have z0 : w1.frozen? ⟨w.heap.size + 1 + 1 + 1, 0, none⟩ = false := by rw [hw1]; simp [go_sem]
  have z1 : w1.frozen? ⟨w.heap.size + 1 + 1 + 1, 1, none⟩ = false := by rw [hw1]; simp [go_sem]
  have z2 : w1.frozen? ⟨w.heap.size + 1 + 1 + 1, 2, none⟩ = false := by rw [hw1]; simp [go_sem]
  have hbw : Below w.heap.size w w1 := by rw [hw1]; exact ((((Below.refl _ _).alloc (Nat.le_refl _) _).alloc (by simp) _).alloc (by simp; omega) _).alloc (by simp; omega) _
  have hsz : w.heap.size + 1 + 1 + 1 < w1.heap.size := by rw [hw1]; simp
  rw [← hw1]
  clear hw1
  refine wp_region_D (S := (fun W : World => Below w1.heap.size w1 W)) (fun _ => true) (by kernel_rfl) (Below.refl _ _).drew (fun hHeld => ?_)
  simp only [List.size_toArray, List.length_cons, List.length_nil, Nat.reduceAdd, Array.replicate_succ, Array.replicate_zero, List.push_toArray, List.append_toArray, List.nil_append, List.cons_append]
  refine WD_take (i := 0) (oi := _) (v := ?_) rfl (by kernel_rfl) (fun _ _ _ h => h) (Or.inl ⟨by rfl, ?_⟩) (by assumption) ?_
  rotate_left
  · (intro W hS; (try dsimp only at hS); have qs0 := (hS.cell (p := ⟨w.heap.size + 1, 0, none⟩) (World.block_lt_of_cell? _ _ s0)).trans s0; have qs1 := (hS.cell (p := ⟨w.heap.size + 1, 1, none⟩) (World.block_lt_of_cell? _ _ s1)).trans s1; have qs2 := (hS.cell (p := ⟨w.heap.size + 1, 2, none⟩) (World.block_lt_of_cell? _ _ s2)).trans s2; clear hS; go_simp; with_reducible rfl)
  try simp only [Act.put, List.getElem_toArray, List.getElem_cons_succ, List.getElem_cons_zero, List.setIfInBounds_toArray, List.set_cons_zero, List.set_cons_succ]
  refine WD_take (i := 1) (oi := _) (v := ?_) rfl (by kernel_rfl) (fun _ _ _ h => h) (Or.inl ⟨by rfl, ?_⟩) (by assumption) ?_
  rotate_left
  · (intro W hS; (try dsimp only at hS); have qk0 := (hS.cell (p := ⟨w.heap.size, 0, none⟩) (World.block_lt_of_cell? _ _ k0)).trans k0; have qk1 := (hS.cell (p := ⟨w.heap.size, 1, none⟩) (World.block_lt_of_cell? _ _ k1)).trans k1; have qk2 := (hS.cell (p := ⟨w.heap.size, 2, none⟩) (World.block_lt_of_cell? _ _ k2)).trans k2; clear hS; go_simp; with_reducible rfl)
  try simp only [Act.put, List.getElem_toArray, List.getElem_cons_succ, List.getElem_cons_zero, List.setIfInBounds_toArray, List.set_cons_zero, List.set_cons_succ]
  refine WD_take (i := 2) (oi := _) (v := ?_) rfl (by kernel_rfl) (fun _ _ _ h => h) (Or.inl ⟨by rfl, ?_⟩) (by assumption) ?_
  rotate_left
  · (intro W hS; (try dsimp only at hS); have qt0 := (hS.cell (p := ⟨w.heap.size + 1 + 1, 0, none⟩) (World.block_lt_of_cell? _ _ t0)).trans t0; have qt1 := (hS.cell (p := ⟨w.heap.size + 1 + 1, 1, none⟩) (World.block_lt_of_cell? _ _ t1)).trans t1; have qt2 := (hS.cell (p := ⟨w.heap.size + 1 + 1, 2, none⟩) (World.block_lt_of_cell? _ _ t2)).trans t2; clear hS; go_simp; with_reducible rfl)
  try simp only [Act.put, List.getElem_toArray, List.getElem_cons_succ, List.getElem_cons_zero, List.setIfInBounds_toArray, List.set_cons_zero, List.set_cons_succ]
  refine WD_step (i := 3) (o := _) rfl (by kernel_rfl) (fun K hK => ?_)
  go_simp
  refine (HN.out _).mono ?_
  rintro e w2 ⟨rfl, hb2⟩
  go_wp2_with fail
  replace hHeld := below_two hHeld hb2
  refine hK.out _ _ (fun _ _ => hHeld) ?_
  clear hK K
  try simp only [Act.put, List.getElem_toArray, List.getElem_cons_succ, List.getElem_cons_zero, List.setIfInBounds_toArray, List.set_cons_zero, List.set_cons_succ]
  refine WD_free (i := 4) (oi := _) (v := ?_) rfl (by kernel_rfl) (fun _ _ _ h => h) (Or.inl ⟨by rfl, ?_⟩) ?_
  rotate_left
  · (intro W hS; (try dsimp only at hS); clear hS; go_simp; with_reducible rfl)
  try simp only [Act.put, List.getElem_toArray, List.getElem_cons_succ, List.getElem_cons_zero, List.setIfInBounds_toArray, List.set_cons_zero, List.set_cons_succ]
  refine WD_free (i := 5) (oi := _) (v := ?_) rfl (by kernel_rfl) (fun _ _ _ h => h) (Or.inl ⟨by rfl, ?_⟩) ?_
  rotate_left
  · (intro W hS; (try dsimp only at hS); clear hS; go_simp; with_reducible rfl)
  try simp only [Act.put, List.getElem_toArray, List.getElem_cons_succ, List.getElem_cons_zero, List.setIfInBounds_toArray, List.set_cons_zero, List.set_cons_succ]
  refine WD_done (by kernel_rfl) ?_ _
  have hb3 := hHeld
  clear hHeld
  replace z0 := (froz hb3 (b := w.heap.size + 1 + 1 + 1) (o := 0) (World.block_lt_of_cell? _ _ r0)).trans z0
  replace z1 := (froz hb3 (b := w.heap.size + 1 + 1 + 1) (o := 1) (World.block_lt_of_cell? _ _ r1)).trans z1
  replace z2 := (froz hb3 (b := w.heap.size + 1 + 1 + 1) (o := 2) (World.block_lt_of_cell? _ _ r2)).trans z2
  replace k0 := kept hb3 k0 (World.block_lt_of_cell? _ _ k0)
  replace k1 := kept hb3 k1 (World.block_lt_of_cell? _ _ k1)
  replace k2 := kept hb3 k2 (World.block_lt_of_cell? _ _ k2)
  replace s0 := kept hb3 s0 (World.block_lt_of_cell? _ _ s0)
  replace s1 := kept hb3 s1 (World.block_lt_of_cell? _ _ s1)
  replace s2 := kept hb3 s2 (World.block_lt_of_cell? _ _ s2)
  replace t0 := kept hb3 t0 (World.block_lt_of_cell? _ _ t0)
  replace t1 := kept hb3 t1 (World.block_lt_of_cell? _ _ t1)
  replace t2 := kept hb3 t2 (World.block_lt_of_cell? _ _ t2)
  replace r0 := kept hb3 r0 (World.block_lt_of_cell? _ _ r0)
  replace r1 := kept hb3 r1 (World.block_lt_of_cell? _ _ r1)
  replace r2 := kept hb3 r2 (World.block_lt_of_cell? _ _ r2)
  have hbx := below_two hbw hb3
  clear hb3 hbw
  have hbw := hbx
  clear hbx
  go_wp2
  refine bodyPost_ret (v := .agg #[.int .i64 0, .int .i64 0, .bool true]) ?_ rfl ?_
  · simp [results, Try.f17, go_sem, r0, r1, r2]
  · exact ⟨rfl, (((hbw).setCell (by simp <;> omega) _).setCell (by simp <;> omega) _).setCell (by simp <;> omega) _⟩
set_option maxRecDepth 100000 in
set_option maxHeartbeats 3200000 in
theorem curve_add_two (N : Nat) (A B : Int) (x1 y1 x2 y2 : Int) (w : World) (hp : M.Pr N) (h1 : 5 ≤ N) (h2 : N ≤ 1048576) (s1 : 0 ≤ x1) (s2 : x1 < N) (s3 : 0 ≤ y1) (s4 : y1 < N) (t1 : 0 ≤ x2) (t2 : x2 < N) (t3 : 0 ≤ y2) (t4 : y2 < N) (hx : x1 ≠ x2) (hn : (⟨x1, y1, false⟩ : Sp) ≠ negS N ⟨x2, y2, false⟩) :
    Calls Try.prog 17 #[.agg #[.int .i64 N, .int .i64 A, .int .i64 B], .agg #[.int .i64 x1, .int .i64 y1, .bool false], .agg #[.int .i64 x2, .int .i64 y2, .bool false]] w fun e w' => e = .returned (.agg #[.int .i64 (addS N A ⟨x1, y1, false⟩ ⟨x2, y2, false⟩).x, .int .i64 (addS N A ⟨x1, y1, false⟩ ⟨x2, y2, false⟩).y, .bool (addS N A ⟨x1, y1, false⟩ ⟨x2, y2, false⟩).far]) ∧ Below w.heap.size w w' := by
  have HN := Lib.hid fun w => curve_neg N A B ⟨x2, y2, false⟩ w (by omega) h2 t3 t4
  simp only [negS] at HN
  obtain ⟨z, hz⟩ : ∃ z, (-y2) % (N : Int) = z := ⟨_, rfl⟩
  rw [hz] at HN
  clear hz
  have HO := Lib.hid fun w => curve_over N A B (y2 - y1) (x2 - x1) w hp h1 h2
  have k1 := ovr_rng (show 1 ≤ N by omega) (y2 - y1) (x2 - x1)
  have HK : Hid (slope N A ⟨x1, y1, false⟩ ⟨x2, y2, false⟩ = ovr N (y2 - y1) (x2 - x1)) := Lib.hid (by unfold slope; rw [if_neg (fun h => hx (congrArg Sp.x h))])
  obtain ⟨k, hk⟩ : ∃ k, ovr N (y2 - y1) (x2 - x1) = k := ⟨_, rfl⟩
  rw [hk] at HO k1 HK
  clear hk
  obtain ⟨g1, g2⟩ := k1
  have m1 := mul_lim g1 (by omega) g1 (by omega)
  have m2 : IntKind.i64.wrap (k * k) = k * k := IntWalk.i64_in _ (by omega)
  have HX := Lib.hid fun w => curve_mod N A B (k * k - x1 - x2) w (by omega) h2
  have i1 := Int.emod_nonneg (k * k - x1 - x2) (show (N : Int) ≠ 0 by omega)
  have i2 := Int.emod_lt_of_pos (k * k - x1 - x2) (show (0 : Int) < N by omega)
  have HR : Hid (sumX N k ⟨x1, y1, false⟩ ⟨x2, y2, false⟩ = (k * k - x1 - x2) % (N : Int)) := Lib.hid rfl
  obtain ⟨x3, hx3⟩ : ∃ x3, (k * k - x1 - x2) % (N : Int) = x3 := ⟨_, rfl⟩
  rw [hx3] at HX i1 i2 HR
  clear hx3
  have n1 : -1099511627776 ≤ k * (x1 - x3) ∧ k * (x1 - x3) ≤ 1099511627776 := by
    have e1 := mul_lim g1 (by omega) s1 (by omega)
    have e2 := mul_lim g1 (by omega) i1 (by omega)
    rw [Int.mul_sub]; omega
  have n2 : IntKind.i64.wrap (k * (x1 - x3)) = k * (x1 - x3) := IntWalk.i64_in _ (by omega)
  have HY := Lib.hid fun w => curve_mod N A B (k * (x1 - x3) - y1) w (by omega) h2
  have HZ : Hid (addS N A ⟨x1, y1, false⟩ ⟨x2, y2, false⟩ = ⟨x3, (k * (x1 - x3) - y1) % N, false⟩) := Lib.hid (by rw [add_aff rfl rfl hn, HK.out, HR.out])
  rw [HZ.out]
  clear HZ HR HK hn
  show Calls _ _ _ w fun e w' => e = .returned (.agg #[.int .i64 x3, .int .i64 ((k * (x1 - x3) - y1) % N), .bool false]) ∧ Below w.heap.size w w'
  obtain ⟨y3, hy3⟩ : ∃ y3, (k * (x1 - x3) - y1) % (N : Int) = y3 := ⟨_, rfl⟩
  rw [hy3] at HY ⊢
  clear hy3
  have e1 : (x1 == x2) = false := by simpa using hx
  clear hx hp
  go_enter Try.func17, Try.ntmps17
  go_wp2_with fail
  obtain ⟨w1, hw1⟩ : ∃ W, W = (((w.alloc (.cells #[.int .i64 N, .int .i64 A, .int .i64 B] 39)).alloc (.cells #[.int .i64 x1, .int .i64 y1, .bool false] 30)).alloc (.cells #[.int .i64 x2, .int .i64 y2, .bool false] 30)).alloc (.cells #[.int .i64 0, .int .i64 0, .bool false] 30) := ⟨_, rfl⟩
  have k0 : w1.cell? ⟨w.heap.size, 0, none⟩ = some (.int .i64 N) := by rw [hw1]; simp [go_sem]
  have k1 : w1.cell? ⟨w.heap.size, 1, none⟩ = some (.int .i64 A) := by rw [hw1]; simp [go_sem]
  have k2 : w1.cell? ⟨w.heap.size, 2, none⟩ = some (.int .i64 B) := by rw [hw1]; simp [go_sem]
  have s0 : w1.cell? ⟨w.heap.size + 1, 0, none⟩ = some (.int .i64 x1) := by rw [hw1]; simp [go_sem]
  have s1 : w1.cell? ⟨w.heap.size + 1, 1, none⟩ = some (.int .i64 y1) := by rw [hw1]; simp [go_sem]
  have s2 : w1.cell? ⟨w.heap.size + 1, 2, none⟩ = some (.bool false) := by rw [hw1]; simp [go_sem]
  have t0 : w1.cell? ⟨w.heap.size + 1 + 1, 0, none⟩ = some (.int .i64 x2) := by rw [hw1]; simp [go_sem]
  have t1 : w1.cell? ⟨w.heap.size + 1 + 1, 1, none⟩ = some (.int .i64 y2) := by rw [hw1]; simp [go_sem]
  have t2 : w1.cell? ⟨w.heap.size + 1 + 1, 2, none⟩ = some (.bool false) := by rw [hw1]; simp [go_sem]
  have r0 : w1.cell? ⟨w.heap.size + 1 + 1 + 1, 0, none⟩ = some (.int .i64 0) := by rw [hw1]; simp [go_sem]
  have r1 : w1.cell? ⟨w.heap.size + 1 + 1 + 1, 1, none⟩ = some (.int .i64 0) := by rw [hw1]; simp [go_sem]
  have r2 : w1.cell? ⟨w.heap.size + 1 + 1 + 1, 2, none⟩ = some (.bool false) := by rw [hw1]; simp [go_sem]
  have z0 : w1.frozen? ⟨w.heap.size + 1 + 1 + 1, 0, none⟩ = false := by rw [hw1]; simp [go_sem]
  have z1 : w1.frozen? ⟨w.heap.size + 1 + 1 + 1, 1, none⟩ = false := by rw [hw1]; simp [go_sem]
  have z2 : w1.frozen? ⟨w.heap.size + 1 + 1 + 1, 2, none⟩ = false := by rw [hw1]; simp [go_sem]
  have hbw : Below w.heap.size w w1 := by rw [hw1]; exact ((((Below.refl _ _).alloc (Nat.le_refl _) _).alloc (by simp) _).alloc (by simp; omega) _).alloc (by simp; omega) _
  have hsz : w.heap.size + 1 + 1 + 1 < w1.heap.size := by rw [hw1]; simp
  rw [← hw1]
  clear hw1
  refine wp_region_D (S := (fun W : World => Below w1.heap.size w1 W)) (fun _ => true) (by kernel_rfl) (Below.refl _ _).drew (fun hHeld => ?_)
  simp only [List.size_toArray, List.length_cons, List.length_nil, Nat.reduceAdd, Array.replicate_succ, Array.replicate_zero, List.push_toArray, List.append_toArray, List.nil_append, List.cons_append]
  refine WD_take (i := 0) (oi := _) (v := ?_) rfl (by kernel_rfl) (fun _ _ _ h => h) (Or.inl ⟨by rfl, ?_⟩) (by assumption) ?_
  rotate_left
  · (intro W hS; (try dsimp only at hS); have qs0 := (hS.cell (p := ⟨w.heap.size + 1, 0, none⟩) (World.block_lt_of_cell? _ _ s0)).trans s0; have qs1 := (hS.cell (p := ⟨w.heap.size + 1, 1, none⟩) (World.block_lt_of_cell? _ _ s1)).trans s1; have qs2 := (hS.cell (p := ⟨w.heap.size + 1, 2, none⟩) (World.block_lt_of_cell? _ _ s2)).trans s2; clear hS; go_simp; with_reducible rfl)
  try simp only [Act.put, List.getElem_toArray, List.getElem_cons_succ, List.getElem_cons_zero, List.setIfInBounds_toArray, List.set_cons_zero, List.set_cons_succ]
  refine WD_take (i := 1) (oi := _) (v := ?_) rfl (by kernel_rfl) (fun _ _ _ h => h) (Or.inl ⟨by rfl, ?_⟩) (by assumption) ?_
  rotate_left
  · (intro W hS; (try dsimp only at hS); have qk0 := (hS.cell (p := ⟨w.heap.size, 0, none⟩) (World.block_lt_of_cell? _ _ k0)).trans k0; have qk1 := (hS.cell (p := ⟨w.heap.size, 1, none⟩) (World.block_lt_of_cell? _ _ k1)).trans k1; have qk2 := (hS.cell (p := ⟨w.heap.size, 2, none⟩) (World.block_lt_of_cell? _ _ k2)).trans k2; clear hS; go_simp; with_reducible rfl)
  try simp only [Act.put, List.getElem_toArray, List.getElem_cons_succ, List.getElem_cons_zero, List.setIfInBounds_toArray, List.set_cons_zero, List.set_cons_succ]
  refine WD_take (i := 2) (oi := _) (v := ?_) rfl (by kernel_rfl) (fun _ _ _ h => h) (Or.inl ⟨by rfl, ?_⟩) (by assumption) ?_
  rotate_left
  · (intro W hS; (try dsimp only at hS); have qt0 := (hS.cell (p := ⟨w.heap.size + 1 + 1, 0, none⟩) (World.block_lt_of_cell? _ _ t0)).trans t0; have qt1 := (hS.cell (p := ⟨w.heap.size + 1 + 1, 1, none⟩) (World.block_lt_of_cell? _ _ t1)).trans t1; have qt2 := (hS.cell (p := ⟨w.heap.size + 1 + 1, 2, none⟩) (World.block_lt_of_cell? _ _ t2)).trans t2; clear hS; go_simp; with_reducible rfl)
  try simp only [Act.put, List.getElem_toArray, List.getElem_cons_succ, List.getElem_cons_zero, List.setIfInBounds_toArray, List.set_cons_zero, List.set_cons_succ]
  refine WD_step (i := 3) (o := _) rfl (by kernel_rfl) (fun K hK => ?_)
  go_simp
  refine (HN.out _).mono ?_
  rintro e w2 ⟨rfl, hb2⟩
  go_wp2_with fail
  replace hHeld := below_two hHeld hb2
  refine hK.out _ _ (fun _ _ => hHeld) ?_
  clear hK K
  try simp only [Act.put, List.getElem_toArray, List.getElem_cons_succ, List.getElem_cons_zero, List.setIfInBounds_toArray, List.set_cons_zero, List.set_cons_succ]
  refine WD_free (i := 4) (oi := _) (v := ?_) rfl (by kernel_rfl) (fun _ _ _ h => h) (Or.inl ⟨by rfl, ?_⟩) ?_
  rotate_left
  · (intro W hS; (try dsimp only at hS); clear hS; go_simp; with_reducible rfl)
  try simp only [Act.put, List.getElem_toArray, List.getElem_cons_succ, List.getElem_cons_zero, List.setIfInBounds_toArray, List.set_cons_zero, List.set_cons_succ]
  refine WD_free (i := 5) (oi := _) (v := ?_) rfl (by kernel_rfl) (fun _ _ _ h => h) (Or.inl ⟨by rfl, ?_⟩) ?_
  rotate_left
  · (intro W hS; (try dsimp only at hS); clear hS; go_simp; with_reducible rfl)
  try simp only [Act.put, List.getElem_toArray, List.getElem_cons_succ, List.getElem_cons_zero, List.setIfInBounds_toArray, List.set_cons_zero, List.set_cons_succ]
  refine WD_done (by kernel_rfl) ?_ _
  have hb3 := hHeld
  clear hHeld
  replace z0 := (froz hb3 (b := w.heap.size + 1 + 1 + 1) (o := 0) (World.block_lt_of_cell? _ _ r0)).trans z0
  replace z1 := (froz hb3 (b := w.heap.size + 1 + 1 + 1) (o := 1) (World.block_lt_of_cell? _ _ r1)).trans z1
  replace z2 := (froz hb3 (b := w.heap.size + 1 + 1 + 1) (o := 2) (World.block_lt_of_cell? _ _ r2)).trans z2
  replace k0 := kept hb3 k0 (World.block_lt_of_cell? _ _ k0)
  replace k1 := kept hb3 k1 (World.block_lt_of_cell? _ _ k1)
  replace k2 := kept hb3 k2 (World.block_lt_of_cell? _ _ k2)
  replace s0 := kept hb3 s0 (World.block_lt_of_cell? _ _ s0)
  replace s1 := kept hb3 s1 (World.block_lt_of_cell? _ _ s1)
  replace s2 := kept hb3 s2 (World.block_lt_of_cell? _ _ s2)
  replace t0 := kept hb3 t0 (World.block_lt_of_cell? _ _ t0)
  replace t1 := kept hb3 t1 (World.block_lt_of_cell? _ _ t1)
  replace t2 := kept hb3 t2 (World.block_lt_of_cell? _ _ t2)
  replace r0 := kept hb3 r0 (World.block_lt_of_cell? _ _ r0)
  replace r1 := kept hb3 r1 (World.block_lt_of_cell? _ _ r1)
  replace r2 := kept hb3 r2 (World.block_lt_of_cell? _ _ r2)
  have hbx := below_two hbw hb3
  clear hb3 hbw
  have hbw := hbx
  clear hbx
  go_wp2_with fail
  refine (HO.out _).mono ?_
  rintro e w4 ⟨rfl, hb4⟩
  replace z0 := (froz hb4 (b := w.heap.size + 1 + 1 + 1) (o := 0) (World.block_lt_of_cell? _ _ r0)).trans z0
  replace z1 := (froz hb4 (b := w.heap.size + 1 + 1 + 1) (o := 1) (World.block_lt_of_cell? _ _ r1)).trans z1
  replace z2 := (froz hb4 (b := w.heap.size + 1 + 1 + 1) (o := 2) (World.block_lt_of_cell? _ _ r2)).trans z2
  replace k0 := kept hb4 k0 (World.block_lt_of_cell? _ _ k0)
  replace k1 := kept hb4 k1 (World.block_lt_of_cell? _ _ k1)
  replace k2 := kept hb4 k2 (World.block_lt_of_cell? _ _ k2)
  replace s0 := kept hb4 s0 (World.block_lt_of_cell? _ _ s0)
  replace s1 := kept hb4 s1 (World.block_lt_of_cell? _ _ s1)
  replace s2 := kept hb4 s2 (World.block_lt_of_cell? _ _ s2)
  replace t0 := kept hb4 t0 (World.block_lt_of_cell? _ _ t0)
  replace t1 := kept hb4 t1 (World.block_lt_of_cell? _ _ t1)
  replace t2 := kept hb4 t2 (World.block_lt_of_cell? _ _ t2)
  replace r0 := kept hb4 r0 (World.block_lt_of_cell? _ _ r0)
  replace r1 := kept hb4 r1 (World.block_lt_of_cell? _ _ r1)
  replace r2 := kept hb4 r2 (World.block_lt_of_cell? _ _ r2)
  have hbx := below_two hbw hb4
  clear hb4 hbw
  have hbw := hbx
  clear hbx
  go_wp2_with fail
  refine (HX.out _).mono ?_
  rintro e w5 ⟨rfl, hb5⟩
  replace z0 := (froz hb5 (b := w.heap.size + 1 + 1 + 1) (o := 0) (World.block_lt_of_cell? _ _ r0)).trans z0
  replace z1 := (froz hb5 (b := w.heap.size + 1 + 1 + 1) (o := 1) (World.block_lt_of_cell? _ _ r1)).trans z1
  replace z2 := (froz hb5 (b := w.heap.size + 1 + 1 + 1) (o := 2) (World.block_lt_of_cell? _ _ r2)).trans z2
  replace k0 := kept hb5 k0 (World.block_lt_of_cell? _ _ k0)
  replace k1 := kept hb5 k1 (World.block_lt_of_cell? _ _ k1)
  replace k2 := kept hb5 k2 (World.block_lt_of_cell? _ _ k2)
  replace s0 := kept hb5 s0 (World.block_lt_of_cell? _ _ s0)
  replace s1 := kept hb5 s1 (World.block_lt_of_cell? _ _ s1)
  replace s2 := kept hb5 s2 (World.block_lt_of_cell? _ _ s2)
  replace t0 := kept hb5 t0 (World.block_lt_of_cell? _ _ t0)
  replace t1 := kept hb5 t1 (World.block_lt_of_cell? _ _ t1)
  replace t2 := kept hb5 t2 (World.block_lt_of_cell? _ _ t2)
  replace r0 := kept hb5 r0 (World.block_lt_of_cell? _ _ r0)
  replace r1 := kept hb5 r1 (World.block_lt_of_cell? _ _ r1)
  replace r2 := kept hb5 r2 (World.block_lt_of_cell? _ _ r2)
  have hbx := below_two hbw hb5
  clear hb5 hbw
  have hbw := hbx
  clear hbx
  go_wp2_with fail
  refine (HY.out _).mono ?_
  rintro e w6 ⟨rfl, hb6⟩
  replace z0 := (froz hb6 (b := w.heap.size + 1 + 1 + 1) (o := 0) (World.block_lt_of_cell? _ _ r0)).trans z0
  replace z1 := (froz hb6 (b := w.heap.size + 1 + 1 + 1) (o := 1) (World.block_lt_of_cell? _ _ r1)).trans z1
  replace z2 := (froz hb6 (b := w.heap.size + 1 + 1 + 1) (o := 2) (World.block_lt_of_cell? _ _ r2)).trans z2
  replace k0 := kept hb6 k0 (World.block_lt_of_cell? _ _ k0)
  replace k1 := kept hb6 k1 (World.block_lt_of_cell? _ _ k1)
  replace k2 := kept hb6 k2 (World.block_lt_of_cell? _ _ k2)
  replace s0 := kept hb6 s0 (World.block_lt_of_cell? _ _ s0)
  replace s1 := kept hb6 s1 (World.block_lt_of_cell? _ _ s1)
  replace s2 := kept hb6 s2 (World.block_lt_of_cell? _ _ s2)
  replace t0 := kept hb6 t0 (World.block_lt_of_cell? _ _ t0)
  replace t1 := kept hb6 t1 (World.block_lt_of_cell? _ _ t1)
  replace t2 := kept hb6 t2 (World.block_lt_of_cell? _ _ t2)
  replace r0 := kept hb6 r0 (World.block_lt_of_cell? _ _ r0)
  replace r1 := kept hb6 r1 (World.block_lt_of_cell? _ _ r1)
  replace r2 := kept hb6 r2 (World.block_lt_of_cell? _ _ r2)
  have hbx := below_two hbw hb6
  clear hb6 hbw
  have hbw := hbx
  clear hbx
  go_wp2
  refine bodyPost_ret (v := .agg #[.int .i64 x3, .int .i64 y3, .bool false]) ?_ rfl ?_
  · simp [results, Try.f17, go_sem, r0, r1, r2]
  · exact ⟨rfl, (((hbw).setCell (by simp <;> omega) _).setCell (by simp <;> omega) _).setCell (by simp <;> omega) _⟩
set_option maxRecDepth 100000 in
set_option maxHeartbeats 3200000 in
theorem curve_add_same (N : Nat) (A B : Int) (x1 y1 : Int) (w : World) (hp : M.Pr N) (h1 : 5 ≤ N) (h3 : N ≤ 262144) (a1 : 0 ≤ A) (a2 : A < N) (s1 : 0 ≤ x1) (s2 : x1 < N) (s3 : 0 ≤ y1) (s4 : y1 < N) (hn : (⟨x1, y1, false⟩ : Sp) ≠ negS N ⟨x1, y1, false⟩) :
    Calls Try.prog 17 #[.agg #[.int .i64 N, .int .i64 A, .int .i64 B], .agg #[.int .i64 x1, .int .i64 y1, .bool false], .agg #[.int .i64 x1, .int .i64 y1, .bool false]] w fun e w' => e = .returned (.agg #[.int .i64 (addS N A ⟨x1, y1, false⟩ ⟨x1, y1, false⟩).x, .int .i64 (addS N A ⟨x1, y1, false⟩ ⟨x1, y1, false⟩).y, .bool (addS N A ⟨x1, y1, false⟩ ⟨x1, y1, false⟩).far]) ∧ Below w.heap.size w w' := by
  have h2 : N ≤ 1048576 := by omega
  have HN := Lib.hid fun w => curve_neg N A B ⟨x1, y1, false⟩ w (by omega) h2 s3 s4
  simp only [negS] at HN
  have hz' : y1 ≠ (-y1) % (N : Int) := fun h => hn (sp_ext rfl h rfl)
  obtain ⟨z, hz⟩ : ∃ z, (-y1) % (N : Int) = z := ⟨_, rfl⟩
  rw [hz] at HN hz'
  clear hz
  have e1 : (y1 == z) = false := by simpa using hz'
  clear hz'
  have HO1 := Lib.hid fun w => curve_over N A B (y1 - y1) (x1 - x1) w hp h1 h2
  obtain ⟨j, hj⟩ : ∃ j, ovr N (y1 - y1) (x1 - x1) = j := ⟨_, rfl⟩
  rw [hj, Int.sub_self, Int.sub_self] at HO1
  clear hj
  have f1 := mul_lim (show 0 ≤ 3 * x1 by omega) (by omega) s1 (by omega)
  have f2 : IntKind.i64.wrap (3 * x1) = 3 * x1 := IntWalk.i64_in _ (by omega)
  have f3 : IntKind.i64.wrap (3 * x1 * x1) = 3 * x1 * x1 := IntWalk.i64_in _ (by omega)
  have f4 : IntKind.i64.wrap (3 * x1 * x1 + A) = 3 * x1 * x1 + A := IntWalk.i64_in _ (by omega)
  have HO := Lib.hid fun w => curve_over N A B (3 * x1 * x1 + A) (2 * y1) w hp h1 h2
  have k1 := ovr_rng (show 1 ≤ N by omega) (3 * x1 * x1 + A) (2 * y1)
  have HK : Hid (slope N A ⟨x1, y1, false⟩ ⟨x1, y1, false⟩ = ovr N (3 * x1 * x1 + A) (2 * y1)) := Lib.hid (by unfold slope; rw [if_pos rfl])
  obtain ⟨k, hk⟩ : ∃ k, ovr N (3 * x1 * x1 + A) (2 * y1) = k := ⟨_, rfl⟩
  rw [hk] at HO k1 HK
  clear hk
  obtain ⟨g1, g2⟩ := k1
  have m1 := mul_lim g1 (by omega) g1 (by omega)
  have m2 : IntKind.i64.wrap (k * k) = k * k := IntWalk.i64_in _ (by omega)
  have HX := Lib.hid fun w => curve_mod N A B (k * k - x1 - x1) w (by omega) h2
  have i1 := Int.emod_nonneg (k * k - x1 - x1) (show (N : Int) ≠ 0 by omega)
  have i2 := Int.emod_lt_of_pos (k * k - x1 - x1) (show (0 : Int) < N by omega)
  have HR : Hid (sumX N k ⟨x1, y1, false⟩ ⟨x1, y1, false⟩ = (k * k - x1 - x1) % (N : Int)) := Lib.hid rfl
  obtain ⟨x3, hx3⟩ : ∃ x3, (k * k - x1 - x1) % (N : Int) = x3 := ⟨_, rfl⟩
  rw [hx3] at HX i1 i2 HR
  clear hx3
  have n1 : -1099511627776 ≤ k * (x1 - x3) ∧ k * (x1 - x3) ≤ 1099511627776 := by
    have e1 := mul_lim g1 (by omega) s1 (by omega)
    have e2 := mul_lim g1 (by omega) i1 (by omega)
    rw [Int.mul_sub]; omega
  have n2 : IntKind.i64.wrap (k * (x1 - x3)) = k * (x1 - x3) := IntWalk.i64_in _ (by omega)
  have HY := Lib.hid fun w => curve_mod N A B (k * (x1 - x3) - y1) w (by omega) h2
  have HZ : Hid (addS N A ⟨x1, y1, false⟩ ⟨x1, y1, false⟩ = ⟨x3, (k * (x1 - x3) - y1) % N, false⟩) := Lib.hid (by rw [add_aff rfl rfl hn, HK.out, HR.out])
  rw [HZ.out]
  clear HZ HR HK hn
  show Calls _ _ _ w fun e w' => e = .returned (.agg #[.int .i64 x3, .int .i64 ((k * (x1 - x3) - y1) % N), .bool false]) ∧ Below w.heap.size w w'
  obtain ⟨y3, hy3⟩ : ∃ y3, (k * (x1 - x3) - y1) % (N : Int) = y3 := ⟨_, rfl⟩
  rw [hy3] at HY ⊢
  clear hy3
  clear hp
  go_enter Try.func17, Try.ntmps17
  go_wp2_with fail
  obtain ⟨w1, hw1⟩ : ∃ W, W = (((w.alloc (.cells #[.int .i64 N, .int .i64 A, .int .i64 B] 39)).alloc (.cells #[.int .i64 x1, .int .i64 y1, .bool false] 30)).alloc (.cells #[.int .i64 x1, .int .i64 y1, .bool false] 30)).alloc (.cells #[.int .i64 0, .int .i64 0, .bool false] 30) := ⟨_, rfl⟩
  have k0 : w1.cell? ⟨w.heap.size, 0, none⟩ = some (.int .i64 N) := by rw [hw1]; simp [go_sem]
  have k1 : w1.cell? ⟨w.heap.size, 1, none⟩ = some (.int .i64 A) := by rw [hw1]; simp [go_sem]
  have k2 : w1.cell? ⟨w.heap.size, 2, none⟩ = some (.int .i64 B) := by rw [hw1]; simp [go_sem]
  have s0 : w1.cell? ⟨w.heap.size + 1, 0, none⟩ = some (.int .i64 x1) := by rw [hw1]; simp [go_sem]
  have s1 : w1.cell? ⟨w.heap.size + 1, 1, none⟩ = some (.int .i64 y1) := by rw [hw1]; simp [go_sem]
  have s2 : w1.cell? ⟨w.heap.size + 1, 2, none⟩ = some (.bool false) := by rw [hw1]; simp [go_sem]
  have t0 : w1.cell? ⟨w.heap.size + 1 + 1, 0, none⟩ = some (.int .i64 x1) := by rw [hw1]; simp [go_sem]
  have t1 : w1.cell? ⟨w.heap.size + 1 + 1, 1, none⟩ = some (.int .i64 y1) := by rw [hw1]; simp [go_sem]
  have t2 : w1.cell? ⟨w.heap.size + 1 + 1, 2, none⟩ = some (.bool false) := by rw [hw1]; simp [go_sem]
  have r0 : w1.cell? ⟨w.heap.size + 1 + 1 + 1, 0, none⟩ = some (.int .i64 0) := by rw [hw1]; simp [go_sem]
  have r1 : w1.cell? ⟨w.heap.size + 1 + 1 + 1, 1, none⟩ = some (.int .i64 0) := by rw [hw1]; simp [go_sem]
  have r2 : w1.cell? ⟨w.heap.size + 1 + 1 + 1, 2, none⟩ = some (.bool false) := by rw [hw1]; simp [go_sem]
  have z0 : w1.frozen? ⟨w.heap.size + 1 + 1 + 1, 0, none⟩ = false := by rw [hw1]; simp [go_sem]
  have z1 : w1.frozen? ⟨w.heap.size + 1 + 1 + 1, 1, none⟩ = false := by rw [hw1]; simp [go_sem]
  have z2 : w1.frozen? ⟨w.heap.size + 1 + 1 + 1, 2, none⟩ = false := by rw [hw1]; simp [go_sem]
  have hbw : Below w.heap.size w w1 := by rw [hw1]; exact ((((Below.refl _ _).alloc (Nat.le_refl _) _).alloc (by simp) _).alloc (by simp; omega) _).alloc (by simp; omega) _
  have hsz : w.heap.size + 1 + 1 + 1 < w1.heap.size := by rw [hw1]; simp
  rw [← hw1]
  clear hw1
  refine wp_region_D (S := (fun W : World => Below w1.heap.size w1 W)) (fun _ => true) (by kernel_rfl) (Below.refl _ _).drew (fun hHeld => ?_)
  simp only [List.size_toArray, List.length_cons, List.length_nil, Nat.reduceAdd, Array.replicate_succ, Array.replicate_zero, List.push_toArray, List.append_toArray, List.nil_append, List.cons_append]
  refine WD_take (i := 0) (oi := _) (v := ?_) rfl (by kernel_rfl) (fun _ _ _ h => h) (Or.inl ⟨by rfl, ?_⟩) (by assumption) ?_
  rotate_left
  · (intro W hS; (try dsimp only at hS); have qs0 := (hS.cell (p := ⟨w.heap.size + 1, 0, none⟩) (World.block_lt_of_cell? _ _ s0)).trans s0; have qs1 := (hS.cell (p := ⟨w.heap.size + 1, 1, none⟩) (World.block_lt_of_cell? _ _ s1)).trans s1; have qs2 := (hS.cell (p := ⟨w.heap.size + 1, 2, none⟩) (World.block_lt_of_cell? _ _ s2)).trans s2; clear hS; go_simp; with_reducible rfl)
  try simp only [Act.put, List.getElem_toArray, List.getElem_cons_succ, List.getElem_cons_zero, List.setIfInBounds_toArray, List.set_cons_zero, List.set_cons_succ]
  refine WD_take (i := 1) (oi := _) (v := ?_) rfl (by kernel_rfl) (fun _ _ _ h => h) (Or.inl ⟨by rfl, ?_⟩) (by assumption) ?_
  rotate_left
  · (intro W hS; (try dsimp only at hS); have qk0 := (hS.cell (p := ⟨w.heap.size, 0, none⟩) (World.block_lt_of_cell? _ _ k0)).trans k0; have qk1 := (hS.cell (p := ⟨w.heap.size, 1, none⟩) (World.block_lt_of_cell? _ _ k1)).trans k1; have qk2 := (hS.cell (p := ⟨w.heap.size, 2, none⟩) (World.block_lt_of_cell? _ _ k2)).trans k2; clear hS; go_simp; with_reducible rfl)
  try simp only [Act.put, List.getElem_toArray, List.getElem_cons_succ, List.getElem_cons_zero, List.setIfInBounds_toArray, List.set_cons_zero, List.set_cons_succ]
  refine WD_take (i := 2) (oi := _) (v := ?_) rfl (by kernel_rfl) (fun _ _ _ h => h) (Or.inl ⟨by rfl, ?_⟩) (by assumption) ?_
  rotate_left
  · (intro W hS; (try dsimp only at hS); have qt0 := (hS.cell (p := ⟨w.heap.size + 1 + 1, 0, none⟩) (World.block_lt_of_cell? _ _ t0)).trans t0; have qt1 := (hS.cell (p := ⟨w.heap.size + 1 + 1, 1, none⟩) (World.block_lt_of_cell? _ _ t1)).trans t1; have qt2 := (hS.cell (p := ⟨w.heap.size + 1 + 1, 2, none⟩) (World.block_lt_of_cell? _ _ t2)).trans t2; clear hS; go_simp; with_reducible rfl)
  try simp only [Act.put, List.getElem_toArray, List.getElem_cons_succ, List.getElem_cons_zero, List.setIfInBounds_toArray, List.set_cons_zero, List.set_cons_succ]
  refine WD_step (i := 3) (o := _) rfl (by kernel_rfl) (fun K hK => ?_)
  go_simp
  refine (HN.out _).mono ?_
  rintro e w2 ⟨rfl, hb2⟩
  go_wp2_with fail
  replace hHeld := below_two hHeld hb2
  refine hK.out _ _ (fun _ _ => hHeld) ?_
  clear hK K
  try simp only [Act.put, List.getElem_toArray, List.getElem_cons_succ, List.getElem_cons_zero, List.setIfInBounds_toArray, List.set_cons_zero, List.set_cons_succ]
  refine WD_free (i := 4) (oi := _) (v := ?_) rfl (by kernel_rfl) (fun _ _ _ h => h) (Or.inl ⟨by rfl, ?_⟩) ?_
  rotate_left
  · (intro W hS; (try dsimp only at hS); clear hS; go_simp; with_reducible rfl)
  try simp only [Act.put, List.getElem_toArray, List.getElem_cons_succ, List.getElem_cons_zero, List.setIfInBounds_toArray, List.set_cons_zero, List.set_cons_succ]
  refine WD_free (i := 5) (oi := _) (v := ?_) rfl (by kernel_rfl) (fun _ _ _ h => h) (Or.inl ⟨by rfl, ?_⟩) ?_
  rotate_left
  · (intro W hS; (try dsimp only at hS); clear hS; go_simp; with_reducible rfl)
  try simp only [Act.put, List.getElem_toArray, List.getElem_cons_succ, List.getElem_cons_zero, List.setIfInBounds_toArray, List.set_cons_zero, List.set_cons_succ]
  refine WD_done (by kernel_rfl) ?_ _
  have hb3 := hHeld
  clear hHeld
  replace z0 := (froz hb3 (b := w.heap.size + 1 + 1 + 1) (o := 0) (World.block_lt_of_cell? _ _ r0)).trans z0
  replace z1 := (froz hb3 (b := w.heap.size + 1 + 1 + 1) (o := 1) (World.block_lt_of_cell? _ _ r1)).trans z1
  replace z2 := (froz hb3 (b := w.heap.size + 1 + 1 + 1) (o := 2) (World.block_lt_of_cell? _ _ r2)).trans z2
  replace k0 := kept hb3 k0 (World.block_lt_of_cell? _ _ k0)
  replace k1 := kept hb3 k1 (World.block_lt_of_cell? _ _ k1)
  replace k2 := kept hb3 k2 (World.block_lt_of_cell? _ _ k2)
  replace s0 := kept hb3 s0 (World.block_lt_of_cell? _ _ s0)
  replace s1 := kept hb3 s1 (World.block_lt_of_cell? _ _ s1)
  replace s2 := kept hb3 s2 (World.block_lt_of_cell? _ _ s2)
  replace t0 := kept hb3 t0 (World.block_lt_of_cell? _ _ t0)
  replace t1 := kept hb3 t1 (World.block_lt_of_cell? _ _ t1)
  replace t2 := kept hb3 t2 (World.block_lt_of_cell? _ _ t2)
  replace r0 := kept hb3 r0 (World.block_lt_of_cell? _ _ r0)
  replace r1 := kept hb3 r1 (World.block_lt_of_cell? _ _ r1)
  replace r2 := kept hb3 r2 (World.block_lt_of_cell? _ _ r2)
  have hbx := below_two hbw hb3
  clear hb3 hbw
  have hbw := hbx
  clear hbx
  go_wp2_with fail
  refine (HO1.out _).mono ?_
  rintro e w4 ⟨rfl, hb4⟩
  replace z0 := (froz hb4 (b := w.heap.size + 1 + 1 + 1) (o := 0) (World.block_lt_of_cell? _ _ r0)).trans z0
  replace z1 := (froz hb4 (b := w.heap.size + 1 + 1 + 1) (o := 1) (World.block_lt_of_cell? _ _ r1)).trans z1
  replace z2 := (froz hb4 (b := w.heap.size + 1 + 1 + 1) (o := 2) (World.block_lt_of_cell? _ _ r2)).trans z2
  replace k0 := kept hb4 k0 (World.block_lt_of_cell? _ _ k0)
  replace k1 := kept hb4 k1 (World.block_lt_of_cell? _ _ k1)
  replace k2 := kept hb4 k2 (World.block_lt_of_cell? _ _ k2)
  replace s0 := kept hb4 s0 (World.block_lt_of_cell? _ _ s0)
  replace s1 := kept hb4 s1 (World.block_lt_of_cell? _ _ s1)
  replace s2 := kept hb4 s2 (World.block_lt_of_cell? _ _ s2)
  replace t0 := kept hb4 t0 (World.block_lt_of_cell? _ _ t0)
  replace t1 := kept hb4 t1 (World.block_lt_of_cell? _ _ t1)
  replace t2 := kept hb4 t2 (World.block_lt_of_cell? _ _ t2)
  replace r0 := kept hb4 r0 (World.block_lt_of_cell? _ _ r0)
  replace r1 := kept hb4 r1 (World.block_lt_of_cell? _ _ r1)
  replace r2 := kept hb4 r2 (World.block_lt_of_cell? _ _ r2)
  have hbx := below_two hbw hb4
  clear hb4 hbw
  have hbw := hbx
  clear hbx
  go_wp2_with fail
  refine (HO.out _).mono ?_
  rintro e w7 ⟨rfl, hb7⟩
  replace z0 := (froz hb7 (b := w.heap.size + 1 + 1 + 1) (o := 0) (World.block_lt_of_cell? _ _ r0)).trans z0
  replace z1 := (froz hb7 (b := w.heap.size + 1 + 1 + 1) (o := 1) (World.block_lt_of_cell? _ _ r1)).trans z1
  replace z2 := (froz hb7 (b := w.heap.size + 1 + 1 + 1) (o := 2) (World.block_lt_of_cell? _ _ r2)).trans z2
  replace k0 := kept hb7 k0 (World.block_lt_of_cell? _ _ k0)
  replace k1 := kept hb7 k1 (World.block_lt_of_cell? _ _ k1)
  replace k2 := kept hb7 k2 (World.block_lt_of_cell? _ _ k2)
  replace s0 := kept hb7 s0 (World.block_lt_of_cell? _ _ s0)
  replace s1 := kept hb7 s1 (World.block_lt_of_cell? _ _ s1)
  replace s2 := kept hb7 s2 (World.block_lt_of_cell? _ _ s2)
  replace t0 := kept hb7 t0 (World.block_lt_of_cell? _ _ t0)
  replace t1 := kept hb7 t1 (World.block_lt_of_cell? _ _ t1)
  replace t2 := kept hb7 t2 (World.block_lt_of_cell? _ _ t2)
  replace r0 := kept hb7 r0 (World.block_lt_of_cell? _ _ r0)
  replace r1 := kept hb7 r1 (World.block_lt_of_cell? _ _ r1)
  replace r2 := kept hb7 r2 (World.block_lt_of_cell? _ _ r2)
  have hbx := below_two hbw hb7
  clear hb7 hbw
  have hbw := hbx
  clear hbx
  go_wp2_with fail
  refine (HX.out _).mono ?_
  rintro e w5 ⟨rfl, hb5⟩
  replace z0 := (froz hb5 (b := w.heap.size + 1 + 1 + 1) (o := 0) (World.block_lt_of_cell? _ _ r0)).trans z0
  replace z1 := (froz hb5 (b := w.heap.size + 1 + 1 + 1) (o := 1) (World.block_lt_of_cell? _ _ r1)).trans z1
  replace z2 := (froz hb5 (b := w.heap.size + 1 + 1 + 1) (o := 2) (World.block_lt_of_cell? _ _ r2)).trans z2
  replace k0 := kept hb5 k0 (World.block_lt_of_cell? _ _ k0)
  replace k1 := kept hb5 k1 (World.block_lt_of_cell? _ _ k1)
  replace k2 := kept hb5 k2 (World.block_lt_of_cell? _ _ k2)
  replace s0 := kept hb5 s0 (World.block_lt_of_cell? _ _ s0)
  replace s1 := kept hb5 s1 (World.block_lt_of_cell? _ _ s1)
  replace s2 := kept hb5 s2 (World.block_lt_of_cell? _ _ s2)
  replace t0 := kept hb5 t0 (World.block_lt_of_cell? _ _ t0)
  replace t1 := kept hb5 t1 (World.block_lt_of_cell? _ _ t1)
  replace t2 := kept hb5 t2 (World.block_lt_of_cell? _ _ t2)
  replace r0 := kept hb5 r0 (World.block_lt_of_cell? _ _ r0)
  replace r1 := kept hb5 r1 (World.block_lt_of_cell? _ _ r1)
  replace r2 := kept hb5 r2 (World.block_lt_of_cell? _ _ r2)
  have hbx := below_two hbw hb5
  clear hb5 hbw
  have hbw := hbx
  clear hbx
  go_wp2_with fail
  refine (HY.out _).mono ?_
  rintro e w6 ⟨rfl, hb6⟩
  replace z0 := (froz hb6 (b := w.heap.size + 1 + 1 + 1) (o := 0) (World.block_lt_of_cell? _ _ r0)).trans z0
  replace z1 := (froz hb6 (b := w.heap.size + 1 + 1 + 1) (o := 1) (World.block_lt_of_cell? _ _ r1)).trans z1
  replace z2 := (froz hb6 (b := w.heap.size + 1 + 1 + 1) (o := 2) (World.block_lt_of_cell? _ _ r2)).trans z2
  replace k0 := kept hb6 k0 (World.block_lt_of_cell? _ _ k0)
  replace k1 := kept hb6 k1 (World.block_lt_of_cell? _ _ k1)
  replace k2 := kept hb6 k2 (World.block_lt_of_cell? _ _ k2)
  replace s0 := kept hb6 s0 (World.block_lt_of_cell? _ _ s0)
  replace s1 := kept hb6 s1 (World.block_lt_of_cell? _ _ s1)
  replace s2 := kept hb6 s2 (World.block_lt_of_cell? _ _ s2)
  replace t0 := kept hb6 t0 (World.block_lt_of_cell? _ _ t0)
  replace t1 := kept hb6 t1 (World.block_lt_of_cell? _ _ t1)
  replace t2 := kept hb6 t2 (World.block_lt_of_cell? _ _ t2)
  replace r0 := kept hb6 r0 (World.block_lt_of_cell? _ _ r0)
  replace r1 := kept hb6 r1 (World.block_lt_of_cell? _ _ r1)
  replace r2 := kept hb6 r2 (World.block_lt_of_cell? _ _ r2)
  have hbx := below_two hbw hb6
  clear hb6 hbw
  have hbw := hbx
  clear hbx
  go_wp2
  refine bodyPost_ret (v := .agg #[.int .i64 x3, .int .i64 y3, .bool false]) ?_ rfl ?_
  · simp [results, Try.f17, go_sem, r0, r1, r2]
  · exact ⟨rfl, (((hbw).setCell (by simp <;> omega) _).setCell (by simp <;> omega) _).setCell (by simp <;> omega) _⟩
theorem curve_add (N : Nat) (A B : Int) (s t : Sp) (w : World) (hp : M.Pr N) (h1 : 5 ≤ N) (h2 : N ≤ 262144) (a1 : 0 ≤ A) (a2 : A < N) (hs : OnC N A B s) (ht : OnC N A B t) :
    Calls Try.prog 17 #[.agg #[.int .i64 N, .int .i64 A, .int .i64 B], .agg #[.int .i64 s.x, .int .i64 s.y, .bool s.far], .agg #[.int .i64 t.x, .int .i64 t.y, .bool t.far]] w fun e w' => e = .returned (.agg #[.int .i64 (addS N A s t).x, .int .i64 (addS N A s t).y, .bool (addS N A s t).far]) ∧ Below w.heap.size w w' := by
  rcases hs.cases with e | sa
  · rw [e, far_add]; obtain ⟨x2, y2, f2⟩ := t; exact curve_add_far1 N A B 0 0 x2 y2 f2 w
  rcases ht.cases with e | at'
  · rw [e, add_far hs]; obtain ⟨x1, y1, f1⟩ := s; obtain rfl : f1 = false := sa.1; exact curve_add_far2 N A B x1 y1 0 0 w
  by_cases hn : s = negS N t
  · rw [hn, add_comm hp h1 (OnC.neg (by omega) ht) ht, add_neg (by omega) ht]
    obtain ⟨x2, y2, f2⟩ := t
    obtain rfl : f2 = false := at'.1
    exact curve_add_opp N A B x2 y2 _ w (by omega) (by omega) at'.2.2.2.1 at'.2.2.2.2.1 rfl
  by_cases hx : s.x = t.x
  · have e := (same_x hp hs ht sa.1 at'.1 hx).resolve_right hn
    subst e
    obtain ⟨x1, y1, f1⟩ := s
    obtain rfl : f1 = false := sa.1
    exact curve_add_same N A B x1 y1 w hp h1 (by omega) a1 a2 sa.2.1 sa.2.2.1 sa.2.2.2.1 sa.2.2.2.2.1 hn
  · obtain ⟨x1, y1, f1⟩ := s
    obtain rfl : f1 = false := sa.1
    obtain ⟨x2, y2, f2⟩ := t
    obtain rfl : f2 = false := at'.1
    exact curve_add_two N A B x1 y1 x2 y2 w hp h1 (by omega) sa.2.1 sa.2.2.1 sa.2.2.2.1 sa.2.2.2.2.1 at'.2.1 at'.2.2.1 at'.2.2.2.1 at'.2.2.2.2.1 hx hn
end Go.Proofs.Ytnheboamjfahaaa
