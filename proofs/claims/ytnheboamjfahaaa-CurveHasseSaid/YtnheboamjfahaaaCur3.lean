/- Contracts of package curve: has, add; of the reference: Spot. -/
import Derived.Test.YtnheboamjfahaaaCur2
import Derived.Laws.StructEq
namespace Go.Proofs.Ytnheboamjfahaaa
open Go.RowKit
set_option linter.unusedVariables false
set_option linter.unusedSimpArgs false
noncomputable def onB (N : Nat) (A B : Int) (s : Sp) : Bool := @decide (OnC N A B s) (Classical.propDecidable _)
theorem onB_yes {N : Nat} {A B : Int} {s : Sp} (h : OnC N A B s) : onB N A B s = true := @decide_eq_true _ (Classical.propDecidable _) h
theorem onB_no {N : Nat} {A B : Int} {s : Sp} (h : ¬ OnC N A B s) : onB N A B s = false := @decide_eq_false _ (Classical.propDecidable _) h
theorem onB_true {N : Nat} {A B : Int} {s : Sp} (h : onB N A B s = true) : OnC N A B s := @of_decide_eq_true _ (Classical.propDecidable _) h
theorem onB_false {N : Nat} {A B : Int} {s : Sp} (h : onB N A B s = false) : ¬ OnC N A B s := @of_decide_eq_false _ (Classical.propDecidable _) h
theorem not_on_far {N : Nat} {A B x y : Int} (h : ¬ (x = 0 ∧ y = 0)) : ¬ OnC N A B ⟨x, y, true⟩ := fun g => by
  rcases g with ⟨_, h1, h2⟩ | ⟨h1, _⟩
  · exact h ⟨h1, h2⟩
  · cases h1
theorem not_on_out {N : Nat} {A B x y : Int} (h : ¬ (0 ≤ x ∧ x < N ∧ 0 ≤ y ∧ y < N)) : ¬ OnC N A B ⟨x, y, false⟩ := fun g => by
  rcases g with ⟨h1, _⟩ | ⟨_, h1, h2, h3, h4, _⟩
  · cases h1
  · exact h ⟨h1, h2, h3, h4⟩
theorem on_in {N : Nat} {A B x y : Int} (h1 : 0 ≤ x) (h2 : x < N) (h3 : 0 ≤ y) (h4 : y < N) : OnC N A B ⟨x, y, false⟩ ↔ (N : Int) ∣ y * y - (x * x * x + A * x + B) :=
  ⟨fun g => by
    rcases g with ⟨h1, _⟩ | ⟨_, _, _, _, _, h⟩
    · cases h1
    · exact h, fun h => .inr ⟨rfl, h1, h2, h3, h4, h⟩⟩
theorem has_eq {N : Nat} (h1 : 1 ≤ N) {A B x y : Int} : (y * y % N = ((x * x % N + A) * x % N + B) % N) ↔ (N : Int) ∣ y * y - (x * x * x + A * x + B) := by
  have e1 := edv (x * x) (N : Int)
  have e2 := edv ((x * x % N + A) * x) (N : Int)
  have e3 := edv ((x * x % N + A) * x % N + B) (N : Int)
  have e4 := edv (y * y) (N : Int)
  obtain ⟨u, hu⟩ : ∃ u, x * x % (N : Int) = u := ⟨_, rfl⟩
  rw [hu] at e1 e2 e3 ⊢
  obtain ⟨v, hv⟩ : ∃ v, (u + A) * x % (N : Int) = v := ⟨_, rfl⟩
  rw [hv] at e2 e3 ⊢
  constructor
  · intro h
    rw [h] at e4
    exact dv4 e1 e2 e3 e4 x 1 1 (-1) (by grobner)
  · intro h
    refine emod_eqd ?_
    exact dv3 h e1 e2 1 (-x) (-1) (by grobner)
theorem spot_eq {N : Nat} (h1 : 1 ≤ N) {A B x y : Int} : ((y * y - pw x 3 N - A * x - B) % N = 0) ↔ (N : Int) ∣ y * y - (x * x * x + A * x + B) := by
  have e1 : (N : Int) ∣ pw x 3 N - x ^ 3 := edv (x ^ 3) N
  constructor
  · intro h
    exact dv2 (Int.dvd_of_emod_eq_zero h) e1 1 1 (by grobner)
  · intro h
    exact Int.emod_eq_zero_of_dvd (dv2 h e1 1 (-1) (by grobner))
set_option maxHeartbeats 1600000 in
theorem curve_has_far (N : Nat) (A B x y : Int) (w : World) (h : x = 0 ∧ y = 0) :
    Calls Try.prog 20 #[.agg #[.int .i64 N, .int .i64 A, .int .i64 B], .agg #[.int .i64 x, .int .i64 y, .bool true]] w fun e w' => e = .returned (.bool true) ∧ Below w.heap.size w w' := by
  obtain ⟨rfl, rfl⟩ := h
  go_enter Try.func20, Try.ntmps20
  go_wp2
  go_ret
  exact ⟨rfl, by first | exact below_drewN (((Below.refl _ _).alloc (Nat.le_refl _) _).alloc (by simp) _) _ | exact ((Below.refl _ _).alloc (Nat.le_refl _) _).alloc (by simp) _⟩
set_option maxHeartbeats 1600000 in
theorem curve_has_nofar (N : Nat) (A B x y : Int) (w : World) (h : ¬ (x = 0 ∧ y = 0)) :
    Calls Try.prog 20 #[.agg #[.int .i64 N, .int .i64 A, .int .i64 B], .agg #[.int .i64 x, .int .i64 y, .bool true]] w fun e w' => e = .returned (.bool false) ∧ Below w.heap.size w w' := by
  by_cases e : x = 0
  · subst e
    have e2 : (y == 0) = false := by simp; omega
    clear h
    go_enter Try.func20, Try.ntmps20
    go_wp2
    go_ret
    exact ⟨rfl, by first | exact below_drewN (((Below.refl _ _).alloc (Nat.le_refl _) _).alloc (by simp) _) _ | exact ((Below.refl _ _).alloc (Nat.le_refl _) _).alloc (by simp) _⟩
  · have e2 : (x == 0) = false := by simpa using e
    clear h e
    go_enter Try.func20, Try.ntmps20
    go_wp2
    go_ret
    exact ⟨rfl, by first | exact below_drewN (((Below.refl _ _).alloc (Nat.le_refl _) _).alloc (by simp) _) _ | exact ((Below.refl _ _).alloc (Nat.le_refl _) _).alloc (by simp) _⟩
set_option maxHeartbeats 1600000 in
theorem curve_has_out (N : Nat) (A B x y : Int) (w : World) (h : ¬ (0 ≤ x ∧ x < N ∧ 0 ≤ y ∧ y < N)) (h1 : 1 ≤ N) (h2 : N ≤ 1048576) :
    Calls Try.prog 20 #[.agg #[.int .i64 N, .int .i64 A, .int .i64 B], .agg #[.int .i64 x, .int .i64 y, .bool false]] w fun e w' => e = .returned (.bool false) ∧ Below w.heap.size w w' := by
  rcases Int.lt_trichotomy x y with h4 | h4 | h4
  · by_cases hx : x < 0
    · clear h
      go_enter Try.func20, Try.ntmps20
      go_wp2
      go_quiet (fail)
      go_wp2
      go_ret
      exact ⟨rfl, by first | exact below_drewN (((Below.refl _ _).alloc (Nat.le_refl _) _).alloc (by simp) _) _ | exact ((Below.refl _ _).alloc (Nat.le_refl _) _).alloc (by simp) _⟩
    · have h6 : (N : Int) ≤ y := by omega
      have h8 : decide (y < (N : Int)) = false := by simp; omega
      have h7 : 0 ≤ x := by omega
      clear h hx
      go_enter Try.func20, Try.ntmps20
      go_wp2
      go_quiet (fail)
      go_wp2
      go_ret
      exact ⟨rfl, by first | exact below_drewN (((Below.refl _ _).alloc (Nat.le_refl _) _).alloc (by simp) _) _ | exact ((Below.refl _ _).alloc (Nat.le_refl _) _).alloc (by simp) _⟩
  · subst h4
    by_cases hx : x < 0
    · clear h
      go_enter Try.func20, Try.ntmps20
      go_wp2
      go_quiet (fail)
      go_wp2
      go_ret
      exact ⟨rfl, by first | exact below_drewN (((Below.refl _ _).alloc (Nat.le_refl _) _).alloc (by simp) _) _ | exact ((Below.refl _ _).alloc (Nat.le_refl _) _).alloc (by simp) _⟩
    · have h6 : (N : Int) ≤ x := by omega
      have h8 : decide (x < (N : Int)) = false := by simp; omega
      have h7 : 0 ≤ x := by omega
      clear h hx
      go_enter Try.func20, Try.ntmps20
      go_wp2
      go_quiet (fail)
      go_wp2
      go_ret
      exact ⟨rfl, by first | exact below_drewN (((Below.refl _ _).alloc (Nat.le_refl _) _).alloc (by simp) _) _ | exact ((Below.refl _ _).alloc (Nat.le_refl _) _).alloc (by simp) _⟩
  · by_cases hx : y < 0
    · clear h
      go_enter Try.func20, Try.ntmps20
      go_wp2
      go_quiet (fail)
      go_wp2
      go_ret
      exact ⟨rfl, by first | exact below_drewN (((Below.refl _ _).alloc (Nat.le_refl _) _).alloc (by simp) _) _ | exact ((Below.refl _ _).alloc (Nat.le_refl _) _).alloc (by simp) _⟩
    · have h6 : (N : Int) ≤ x := by omega
      have h8 : decide (x < (N : Int)) = false := by simp; omega
      have h7 : 0 ≤ y := by omega
      clear h hx
      go_enter Try.func20, Try.ntmps20
      go_wp2
      go_quiet (fail)
      go_wp2
      go_ret
      exact ⟨rfl, by first | exact below_drewN (((Below.refl _ _).alloc (Nat.le_refl _) _).alloc (by simp) _) _ | exact ((Below.refl _ _).alloc (Nat.le_refl _) _).alloc (by simp) _⟩
set_option maxRecDepth 100000 in
set_option maxHeartbeats 3200000 in
theorem curve_has_in (N : Nat) (A B x y : Int) (w : World) (h1 : 1 ≤ N) (h2 : N ≤ 1048576) (a1 : 0 ≤ A) (a2 : A < N) (b1 : 0 ≤ B) (b2 : B < N) (x1 : 0 ≤ x) (x2 : x < N) (y1 : 0 ≤ y) (y2 : y < N) :
    Calls Try.prog 20 #[.agg #[.int .i64 N, .int .i64 A, .int .i64 B], .agg #[.int .i64 x, .int .i64 y, .bool false]] w fun e w' => e = .returned (.bool (onB N A B ⟨x, y, false⟩)) ∧ Below w.heap.size w w' := by
  have HR := Lib.hid fun w => curve_right N A B x w h1 h2 a1 a2 b1 b2 x1 x2
  have HE := Lib.hid (@has_eq N h1 A B x y)
  have HO := Lib.hid (@on_in N A B x y x1 x2 y1 y2)
  have m1 := mul_lim y1 (by omega) y1 (by omega)
  have m2 : IntKind.i64.wrap (y * y) = y * y := IntWalk.i64_in _ (by omega)
  have m3 : (y * y).tmod N = y * y % N := Int.tmod_eq_emod_of_nonneg (by omega)
  have t1 : ((N : Int) == 0) = false := by simp; omega
  have t2 : ¬ (N : Int) = 0 := by omega
  have t3 : ¬ N = 0 := by omega
  obtain ⟨z, hz⟩ : ∃ z, y * y % (N : Int) = z := ⟨_, rfl⟩
  obtain ⟨v, hv⟩ : ∃ z, ((x * x % (N : Int) + A) * x % N + B) % N = z := ⟨_, rfl⟩
  rw [hz] at m3 HE
  rw [hv] at HR HE
  clear hz hv
  have HT : Hid ((z == v) = onB N A B ⟨x, y, false⟩) := Lib.hid (by
    cases hT : onB N A B ⟨x, y, false⟩ with
    | true => exact beq_iff_eq.2 (HE.out.2 (HO.out.1 (onB_true hT)))
    | false => exact beq_eq_false_iff_ne.2 fun h => onB_false hT (HO.out.2 (HE.out.1 h)))
  clear HE HO
  obtain ⟨T, hT⟩ : ∃ T, onB N A B ⟨x, y, false⟩ = T := ⟨_, rfl⟩
  rw [hT] at HT ⊢
  clear hT
  have hord : x < y ∨ x = y ∨ y < x := by omega
  rcases hord with h4 | h4 | h4
  all_goals
    try subst h4
    go_enter Try.func20, Try.ntmps20
    go_wp2_with fail
    first
      | (obtain ⟨w1, hw1⟩ : ∃ W, W = (w.alloc (.cells #[.int .i64 N, .int .i64 A, .int .i64 B] 39)).alloc (.cells #[.int .i64 x, .int .i64 y, .bool false] 30) := ⟨_, rfl⟩
         have s1 : w1.cell? ⟨w.heap.size + 1, 1, none⟩ = some (.int .i64 y) := by rw [hw1]; simp [go_sem])
      | (obtain ⟨w1, hw1⟩ : ∃ W, W = (w.alloc (.cells #[.int .i64 N, .int .i64 A, .int .i64 B] 39)).alloc (.cells #[.int .i64 x, .int .i64 x, .bool false] 30) := ⟨_, rfl⟩
         have s1 : w1.cell? ⟨w.heap.size + 1, 1, none⟩ = some (.int .i64 x) := by rw [hw1]; simp [go_sem])
    have k0 : w1.cell? ⟨w.heap.size, 0, none⟩ = some (.int .i64 N) := by rw [hw1]; simp [go_sem]
    have k1 : w1.cell? ⟨w.heap.size, 1, none⟩ = some (.int .i64 A) := by rw [hw1]; simp [go_sem]
    have k2 : w1.cell? ⟨w.heap.size, 2, none⟩ = some (.int .i64 B) := by rw [hw1]; simp [go_sem]
    have s0 : w1.cell? ⟨w.heap.size + 1, 0, none⟩ = some (.int .i64 x) := by rw [hw1]; simp [go_sem]
    have hbw : Below w.heap.size w w1 := by rw [hw1]; exact ((Below.refl _ _).alloc (Nat.le_refl _) _).alloc (by simp) _
    rw [← hw1]
    clear hw1
    refine wp_region_D (S := (fun W : World => Below w1.heap.size w1 W)) (fun _ => true) (by kernel_rfl) (Below.refl _ _).drew (fun hHeld => ?_)
    simp only [List.size_toArray, List.length_cons, List.length_nil, Nat.reduceAdd, Array.replicate_succ, Array.replicate_zero, List.push_toArray, List.append_toArray, List.nil_append, List.cons_append]
    refine WD_free (i := 0) (oi := _) (v := ?_) rfl (by kernel_rfl) (fun _ _ _ h => h) (Or.inl ⟨by rfl, ?_⟩) ?_
    rotate_left
    · (intro W hS; (try dsimp only at hS); clear hS; go_simp; with_reducible rfl)
    try simp only [Act.put, List.getElem_toArray, List.getElem_cons_succ, List.getElem_cons_zero, List.setIfInBounds_toArray, List.set_cons_zero, List.set_cons_succ]
    refine WD_free (i := 1) (oi := _) (v := ?_) rfl (by kernel_rfl) (fun _ _ _ h => h) (Or.inl ⟨by rfl, ?_⟩) ?_
    rotate_left
    · (intro W hS; (try dsimp only at hS); clear hS; go_simp; with_reducible rfl)
    try simp only [Act.put, List.getElem_toArray, List.getElem_cons_succ, List.getElem_cons_zero, List.setIfInBounds_toArray, List.set_cons_zero, List.set_cons_succ]
    refine WD_free (i := 2) (oi := _) (v := ?_) rfl (by kernel_rfl) (fun _ _ _ h => h) (Or.inl ⟨by rfl, ?_⟩) ?_
    rotate_left
    · (intro W hS; (try dsimp only at hS); clear hS; go_simp; with_reducible rfl)
    try simp only [Act.put, List.getElem_toArray, List.getElem_cons_succ, List.getElem_cons_zero, List.setIfInBounds_toArray, List.set_cons_zero, List.set_cons_succ]
    refine WD_take (i := 3) (oi := _) (v := ?_) rfl (by kernel_rfl) (fun _ _ _ h => h) (Or.inl ⟨by rfl, ?_⟩) (by assumption) ?_
    rotate_left
    · (intro W hS; (try dsimp only at hS); have qs1 := (hS.cell (p := ⟨w.heap.size + 1, 1, none⟩) (World.block_lt_of_cell? _ _ s1)).trans s1; clear hS; go_simp; with_reducible rfl)
    try simp only [Act.put, List.getElem_toArray, List.getElem_cons_succ, List.getElem_cons_zero, List.setIfInBounds_toArray, List.set_cons_zero, List.set_cons_succ]
    refine WD_free (i := 4) (oi := _) (v := ?_) rfl (by kernel_rfl) (fun _ _ _ h => h) (Or.inl ⟨by rfl, ?_⟩) ?_
    rotate_left
    · (intro W hS; (try dsimp only at hS); clear hS; go_simp; with_reducible rfl)
    try simp only [Act.put, List.getElem_toArray, List.getElem_cons_succ, List.getElem_cons_zero, List.setIfInBounds_toArray, List.set_cons_zero, List.set_cons_succ]
    refine WD_take (i := 5) (oi := _) (v := ?_) rfl (by kernel_rfl) (fun _ _ _ h => h) (Or.inl ⟨by rfl, ?_⟩) (by assumption) ?_
    rotate_left
    · (intro W hS; (try dsimp only at hS); have qs1 := (hS.cell (p := ⟨w.heap.size + 1, 1, none⟩) (World.block_lt_of_cell? _ _ s1)).trans s1; clear hS; go_simp; with_reducible rfl)
    try simp only [Act.put, List.getElem_toArray, List.getElem_cons_succ, List.getElem_cons_zero, List.setIfInBounds_toArray, List.set_cons_zero, List.set_cons_succ]
    refine WD_free (i := 6) (oi := _) (v := ?_) rfl (by kernel_rfl) (fun _ _ _ h => h) (Or.inl ⟨by rfl, ?_⟩) ?_
    rotate_left
    · (intro W hS; (try dsimp only at hS); clear hS; go_simp; with_reducible rfl)
    try simp only [Act.put, List.getElem_toArray, List.getElem_cons_succ, List.getElem_cons_zero, List.setIfInBounds_toArray, List.set_cons_zero, List.set_cons_succ]
    refine WD_free (i := 7) (oi := _) (v := ?_) rfl (by kernel_rfl) (fun _ _ _ h => h) (Or.inl ⟨by rfl, ?_⟩) ?_
    rotate_left
    · (intro W hS; (try dsimp only at hS); clear hS; go_simp; with_reducible rfl)
    try simp only [Act.put, List.getElem_toArray, List.getElem_cons_succ, List.getElem_cons_zero, List.setIfInBounds_toArray, List.set_cons_zero, List.set_cons_succ]
    refine WD_free (i := 8) (oi := _) (v := ?_) rfl (by kernel_rfl) (fun _ _ _ h => h) (Or.inl ⟨by rfl, ?_⟩) ?_
    rotate_left
    · (intro W hS; (try dsimp only at hS); clear hS; go_simp; with_reducible rfl)
    try simp only [Act.put, List.getElem_toArray, List.getElem_cons_succ, List.getElem_cons_zero, List.setIfInBounds_toArray, List.set_cons_zero, List.set_cons_succ]
    refine WD_take (i := 9) (oi := _) (v := ?_) rfl (by kernel_rfl) (fun _ _ _ h => h) (Or.inl ⟨by rfl, ?_⟩) (by assumption) ?_
    rotate_left
    · (intro W hS; (try dsimp only at hS); have qk0 := (hS.cell (p := ⟨w.heap.size, 0, none⟩) (World.block_lt_of_cell? _ _ k0)).trans k0; clear hS; go_simp; with_reducible rfl)
    try simp only [Act.put, List.getElem_toArray, List.getElem_cons_succ, List.getElem_cons_zero, List.setIfInBounds_toArray, List.set_cons_zero, List.set_cons_succ]
    refine WD_free (i := 10) (oi := _) (v := ?_) rfl (by kernel_rfl) (fun _ _ _ h => h) (Or.inl ⟨by rfl, ?_⟩) ?_
    rotate_left
    · (intro W hS; (try dsimp only at hS); clear hS; go_simp; with_reducible rfl)
    try simp only [Act.put, List.getElem_toArray, List.getElem_cons_succ, List.getElem_cons_zero, List.setIfInBounds_toArray, List.set_cons_zero, List.set_cons_succ]
    refine WD_take (i := 11) (oi := _) (v := ?_) rfl (by kernel_rfl) (fun _ _ _ h => h) (Or.inl ⟨by rfl, ?_⟩) (by assumption) ?_
    rotate_left
    · (intro W hS; (try dsimp only at hS); have qk0 := (hS.cell (p := ⟨w.heap.size, 0, none⟩) (World.block_lt_of_cell? _ _ k0)).trans k0; have qk1 := (hS.cell (p := ⟨w.heap.size, 1, none⟩) (World.block_lt_of_cell? _ _ k1)).trans k1; have qk2 := (hS.cell (p := ⟨w.heap.size, 2, none⟩) (World.block_lt_of_cell? _ _ k2)).trans k2; clear hS; go_simp; with_reducible rfl)
    try simp only [Act.put, List.getElem_toArray, List.getElem_cons_succ, List.getElem_cons_zero, List.setIfInBounds_toArray, List.set_cons_zero, List.set_cons_succ]
    refine WD_free (i := 12) (oi := _) (v := ?_) rfl (by kernel_rfl) (fun _ _ _ h => h) (Or.inl ⟨by rfl, ?_⟩) ?_
    rotate_left
    · (intro W hS; (try dsimp only at hS); clear hS; go_simp; with_reducible rfl)
    try simp only [Act.put, List.getElem_toArray, List.getElem_cons_succ, List.getElem_cons_zero, List.setIfInBounds_toArray, List.set_cons_zero, List.set_cons_succ]
    refine WD_take (i := 13) (oi := _) (v := ?_) rfl (by kernel_rfl) (fun _ _ _ h => h) (Or.inl ⟨by rfl, ?_⟩) (by assumption) ?_
    rotate_left
    · (intro W hS; (try dsimp only at hS); have qs0 := (hS.cell (p := ⟨w.heap.size + 1, 0, none⟩) (World.block_lt_of_cell? _ _ s0)).trans s0; clear hS; go_simp; with_reducible rfl)
    try simp only [Act.put, List.getElem_toArray, List.getElem_cons_succ, List.getElem_cons_zero, List.setIfInBounds_toArray, List.set_cons_zero, List.set_cons_succ]
    refine WD_step (i := 14) (o := _) rfl (by kernel_rfl) (fun K hK => ?_)
    go_simp
    refine (HR.out _).mono ?_
    rintro e w5 ⟨rfl, hb5⟩
    go_wp2_with fail
    replace hHeld := below_two hHeld hb5
    refine hK.out _ _ (fun _ _ => hHeld) ?_
    clear hK K
    try simp only [Act.put, List.getElem_toArray, List.getElem_cons_succ, List.getElem_cons_zero, List.setIfInBounds_toArray, List.set_cons_zero, List.set_cons_succ]
    refine WD_free (i := 15) (oi := _) (v := ?_) rfl (by kernel_rfl) (fun _ _ _ h => h) (Or.inl ⟨by rfl, ?_⟩) ?_
    rotate_left
    · (intro W hS; (try dsimp only at hS); clear hS; go_simp; with_reducible rfl)
    try simp only [Act.put, List.getElem_toArray, List.getElem_cons_succ, List.getElem_cons_zero, List.setIfInBounds_toArray, List.set_cons_zero, List.set_cons_succ]
    refine WD_free (i := 16) (oi := _) (v := ?_) rfl (by kernel_rfl) (fun _ _ _ h => h) (Or.inl ⟨by rfl, ?_⟩) ?_
    rotate_left
    · (intro W hS; (try dsimp only at hS); clear hS; go_simp; with_reducible rfl)
    try simp only [Act.put, List.getElem_toArray, List.getElem_cons_succ, List.getElem_cons_zero, List.setIfInBounds_toArray, List.set_cons_zero, List.set_cons_succ]
    refine WD_free (i := 17) (oi := _) (v := ?_) rfl (by kernel_rfl) (fun _ _ _ h => h) (Or.inl ⟨by rfl, ?_⟩) ?_
    rotate_left
    · (intro W hS; (try dsimp only at hS); clear hS; go_simp; with_reducible rfl)
    try simp only [Act.put, List.getElem_toArray, List.getElem_cons_succ, List.getElem_cons_zero, List.setIfInBounds_toArray, List.set_cons_zero, List.set_cons_succ]
    refine WD_done (by kernel_rfl) ?_ _
    go_wp2
    go_ret
    exact ⟨by rw [← HT.out]; rfl, below_two hbw hHeld⟩
theorem curve_has (N : Nat) (A B : Int) (s : Sp) (w : World) (h1 : 1 ≤ N) (h2 : N ≤ 1048576) (a1 : 0 ≤ A) (a2 : A < N) (b1 : 0 ≤ B) (b2 : B < N) :
    Calls Try.prog 20 #[.agg #[.int .i64 N, .int .i64 A, .int .i64 B], .agg #[.int .i64 s.x, .int .i64 s.y, .bool s.far]] w fun e w' => e = .returned (.bool (onB N A B s)) ∧ Below w.heap.size w w' := by
  obtain ⟨x, y, f⟩ := s
  cases f with
  | true =>
    by_cases h : x = 0 ∧ y = 0
    · rw [onB_yes (.inl ⟨rfl, h.1, h.2⟩)]; exact curve_has_far N A B x y w h
    · rw [onB_no (not_on_far h)]; exact curve_has_nofar N A B x y w h
  | false =>
    by_cases h : 0 ≤ x ∧ x < N ∧ 0 ≤ y ∧ y < N
    · exact curve_has_in N A B x y w h1 h2 a1 a2 b1 b2 h.1 h.2.1 h.2.2.1 h.2.2.2
    · rw [onB_no (not_on_out h)]; exact curve_has_out N A B x y w h h1 h2
end Go.Proofs.Ytnheboamjfahaaa
