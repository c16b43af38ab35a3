/- Contracts of package curve: mod, over, right, neg. -/
import Derived.Test.YtnheboamjfahaaaCurM2
import Derived.Test.YtnheboamjfahaaaEu2
import Derived.Test.YtnheboamjfahaaaPow
import Derived.Test.YtnheboamjfahaaaHold
namespace Go.Proofs.Ytnheboamjfahaaa
open Go.RowKit
set_option linter.unusedVariables false
set_option linter.unusedSimpArgs false
theorem froz {W W' : World} (hb : Below W.heap.size W W') {b o : Nat} (h : b < W.heap.size) : W'.frozen? ⟨b, o, none⟩ = W.frozen? ⟨b, o, none⟩ := by
  unfold World.frozen?
  have := hb.block b h
  simp [this]
set_option maxHeartbeats 1600000 in
theorem curve_mod (N : Nat) (A B x : Int) (w : World) (h1 : 1 ≤ N) (h2 : N ≤ 1048576) :
    Calls Try.prog 22 #[.agg #[.int .i64 N, .int .i64 A, .int .i64 B], .int .i64 x] w fun e w' => e = .returned (.int .i64 (x % N)) ∧ Below w.heap.size w w' := by
  go_enter Try.func22, Try.ntmps22
  go_wp2_with fail
  refine (euclid_Mod x N _ (by omega) (by omega)).mono ?_
  rintro e w' ⟨rfl, rfl⟩
  go_wp2
  go_ret
  exact ⟨rfl, (Below.refl _ _).alloc (Nat.le_refl _) _⟩
theorem inv_pow (N : Nat) (b : Int) (w : World) (hp : M.Pr N) (h5 : 5 ≤ N) (h2 : N ≤ 1048576) :
    Calls Try.prog 28 #[.int .i64 (b % N), .int .i64 N] w fun e w' => (∃ T : Int, e = .returned (.tuple #[.int .i64 (b ^ (N - 2) % N), .int .i64 T])) ∧ Below w.heap.size w w' := by
  have b1 := Int.emod_nonneg b (show (N : Int) ≠ 0 by omega)
  have b2 := Int.emod_lt_of_pos b (show (0 : Int) < N by omega)
  refine (euclid_Inverse (b % N) N w (by omega) (by omega) (by omega) (by omega)).mono ?_
  rintro e w' ⟨⟨hg, i, rfl, i1, i2, i3⟩ | ⟨hg, rfl⟩, hb⟩
  · refine ⟨⟨0, ?_⟩, hb⟩
    have hnb : ¬ (N : Int) ∣ b := fun hd => by
      have h0 : b % (N : Int) = 0 := Int.emod_eq_zero_of_dvd hd
      rw [h0, Int.gcd_zero_left] at hg
      simp at hg; omega
    have e1 : i = ovr N 1 b := by
      refine ovr_uniq hp hnb i1 i2 ?_
      obtain ⟨q, hq⟩ := i3
      obtain ⟨r, hr⟩ := emod_dvd b N
      exact ⟨q - i * r, by grind⟩
    rw [e1]
    show Ending.returned (.tuple #[.int .i64 (1 * b ^ (N - 2) % N), _]) = _
    rw [Int.one_mul]
  · refine ⟨⟨5, ?_⟩, hb⟩
    have hd : (N : Int) ∣ b := by
      rw [gcd_emod] at hg
      have h1 : Int.gcd b N ∣ N := Int.natCast_dvd_natCast.1 (Int.gcd_dvd_right b (N : Int))
      rcases hp.2 _ h1 with h3 | h3
      · exact absurd h3 hg
      · have := Int.gcd_dvd_left b (N : Int); rwa [h3] at this
    have e1 := ovr_zero (N := N) (by omega) 1 hd
    have e2 : b ^ (N - 2) % (N : Int) = 0 := by rw [← e1]; show _ = 1 * b ^ (N - 2) % (N : Int); rw [Int.one_mul]
    rw [e2]
set_option maxRecDepth 100000 in
set_option maxHeartbeats 3200000 in
theorem curve_over (N : Nat) (A B a b : Int) (w : World) (hp : M.Pr N) (h5 : 5 ≤ N) (h2 : N ≤ 1048576) :
    Calls Try.prog 26 #[.agg #[.int .i64 N, .int .i64 A, .int .i64 B], .int .i64 a, .int .i64 b] w fun e w' => e = .returned (.int .i64 (ovr N a b)) ∧ Below w.heap.size w w' := by
  have HI := Lib.hid fun w => inv_pow N b w hp h5 h2
  have HMb := Lib.hid fun w => curve_mod N A B b w (by omega) h2
  have HMa := Lib.hid fun w => curve_mod N A B a w (by omega) h2
  have HO : Hid (a % N * (b ^ (N - 2) % N) % N = ovr N a b) := Lib.hid (by unfold ovr; rw [← Int.mul_emod])
  have y1 := Int.emod_nonneg b (show (N : Int) ≠ 0 by omega)
  have x1 := Int.emod_nonneg a (show (N : Int) ≠ 0 by omega)
  have x2 := Int.emod_lt_of_pos a (show (0 : Int) < N by omega)
  have i1 := Int.emod_nonneg (b ^ (N - 2)) (show (N : Int) ≠ 0 by omega)
  have i2 := Int.emod_lt_of_pos (b ^ (N - 2)) (show (0 : Int) < N by omega)
  obtain ⟨x, hx⟩ : ∃ x, a % (N : Int) = x := ⟨_, rfl⟩
  obtain ⟨y, hy⟩ : ∃ x, b % (N : Int) = x := ⟨_, rfl⟩
  obtain ⟨i, hi⟩ : ∃ x, b ^ (N - 2) % (N : Int) = x := ⟨_, rfl⟩
  obtain ⟨o, ho⟩ : ∃ x, ovr N a b = x := ⟨_, rfl⟩
  rw [hx] at HMa HO x1 x2
  rw [hy] at HMb HI y1
  rw [hi] at HI HO i1 i2
  rw [ho] at HO ⊢
  have m1 := mul_lim x1 (by omega) i1 (by omega)
  have m2 : IntKind.i64.wrap (x * i) = x * i := IntWalk.i64_in _ (by omega)
  have m3 : (x * i).tmod N = x * i % N := Int.tmod_eq_emod_of_nonneg (by omega)
  have z1 : ((N : Int) == 0) = false := by simp; omega
  have z2 : ¬ (N : Int) = 0 := by omega
  have z3 : ¬ N = 0 := by omega
  clear hx hy hi ho hp
  go_enter Try.func26, Try.ntmps26
  go_wp2_with fail
  obtain ⟨w1, hw1⟩ : ∃ W, W = w.alloc (.cells #[.int .i64 N, .int .i64 A, .int .i64 B] 39) := ⟨_, rfl⟩
  have k0 : w1.cell? ⟨w.heap.size, 0, none⟩ = some (.int .i64 N) := by rw [hw1]; simp [go_sem]
  have k1 : w1.cell? ⟨w.heap.size, 1, none⟩ = some (.int .i64 A) := by rw [hw1]; simp [go_sem]
  have k2 : w1.cell? ⟨w.heap.size, 2, none⟩ = some (.int .i64 B) := by rw [hw1]; simp [go_sem]
  have hbw : Below w.heap.size w w1 := by rw [hw1]; exact (Below.refl _ _).alloc (Nat.le_refl _) _
  rw [← hw1]
  clear hw1
  refine wp_region_D (S := (fun W : World => Below w1.heap.size w1 W)) (fun _ => true) (by kernel_rfl) (Below.refl _ _).drew (fun hHeld => ?_)
  simp only [List.size_toArray, List.length_cons, List.length_nil, Nat.reduceAdd, Array.replicate_succ, Array.replicate_zero, List.push_toArray, List.append_toArray, List.nil_append, List.cons_append]
  refine WD_take (i := 0) (oi := _) (v := ?_) rfl (by kernel_rfl) (fun _ _ _ h => h) (Or.inl ⟨by rfl, ?_⟩) (by assumption) ?_
  rotate_left
  · (intro W hS; (try dsimp only at hS); have q0 := (hS.cell (p := ⟨w.heap.size, 0, none⟩) (World.block_lt_of_cell? _ _ k0)).trans k0; have q1 := (hS.cell (p := ⟨w.heap.size, 1, none⟩) (World.block_lt_of_cell? _ _ k1)).trans k1; have q2 := (hS.cell (p := ⟨w.heap.size, 2, none⟩) (World.block_lt_of_cell? _ _ k2)).trans k2; clear hS; go_simp; with_reducible rfl)
  try simp only [Act.put, List.getElem_toArray, List.getElem_cons_succ, List.getElem_cons_zero, List.setIfInBounds_toArray, List.set_cons_zero, List.set_cons_succ]
  refine WD_free (i := 1) (oi := _) (v := ?_) rfl (by kernel_rfl) (fun _ _ _ h => h) (Or.inl ⟨by rfl, ?_⟩) ?_
  rotate_left
  · (intro W hS; (try dsimp only at hS); clear hS; go_simp; with_reducible rfl)
  try simp only [Act.put, List.getElem_toArray, List.getElem_cons_succ, List.getElem_cons_zero, List.setIfInBounds_toArray, List.set_cons_zero, List.set_cons_succ]
  refine WD_free (i := 3) (oi := _) (v := ?_) rfl (by kernel_rfl) (fun _ _ _ h => h) (Or.inl ⟨by rfl, ?_⟩) ?_
  rotate_left
  · (intro W hS; (try dsimp only at hS); clear hS; go_simp; with_reducible rfl)
  try simp only [Act.put, List.getElem_toArray, List.getElem_cons_succ, List.getElem_cons_zero, List.setIfInBounds_toArray, List.set_cons_zero, List.set_cons_succ]
  refine WD_free (i := 4) (oi := _) (v := ?_) rfl (by kernel_rfl) (fun _ _ _ h => h) (Or.inl ⟨by rfl, ?_⟩) ?_
  rotate_left
  · (intro W hS; (try dsimp only at hS); clear hS; go_simp; with_reducible rfl)
  try simp only [Act.put, List.getElem_toArray, List.getElem_cons_succ, List.getElem_cons_zero, List.setIfInBounds_toArray, List.set_cons_zero, List.set_cons_succ]
  refine WD_take (i := 5) (oi := _) (v := ?_) rfl (by kernel_rfl) (fun _ _ _ h => h) (Or.inl ⟨by rfl, ?_⟩) (by assumption) ?_
  rotate_left
  · (intro W hS; (try dsimp only at hS); have q0 := (hS.cell (p := ⟨w.heap.size, 0, none⟩) (World.block_lt_of_cell? _ _ k0)).trans k0; clear hS; go_simp; with_reducible rfl)
  try simp only [Act.put, List.getElem_toArray, List.getElem_cons_succ, List.getElem_cons_zero, List.setIfInBounds_toArray, List.set_cons_zero, List.set_cons_succ]
  refine WD_step (i := 2) (o := _) rfl (by kernel_rfl) (fun K hK => ?_)
  go_simp
  refine (HMb.out _).mono ?_
  rintro e w5 ⟨rfl, hb5⟩
  go_wp2_with fail
  replace hHeld := below_two hHeld hb5
  refine hK.out _ _ (fun _ _ => hHeld) ?_
  clear hK K
  try simp only [Act.put, List.getElem_toArray, List.getElem_cons_succ, List.getElem_cons_zero, List.setIfInBounds_toArray, List.set_cons_zero, List.set_cons_succ]
  refine WD_step (i := 6) (o := _) rfl (by kernel_rfl) (fun K hK => ?_)
  go_simp
  refine (HI.out _).mono ?_
  rintro e w6 ⟨⟨T, rfl⟩, hb6⟩
  go_wp2_with fail
  replace hHeld := below_two hHeld hb6
  refine hK.out _ _ (fun _ _ => hHeld) ?_
  clear hK K
  try simp only [Act.put, List.getElem_toArray, List.getElem_cons_succ, List.getElem_cons_zero, List.setIfInBounds_toArray, List.set_cons_zero, List.set_cons_succ]
  refine WD_free (i := 7) (oi := _) (v := ?_) rfl (by kernel_rfl) (fun _ _ _ h => h) (Or.inl ⟨by rfl, ?_⟩) ?_
  rotate_left
  · (intro W hS; (try dsimp only at hS); clear hS; go_simp; with_reducible rfl)
  try simp only [Act.put, List.getElem_toArray, List.getElem_cons_succ, List.getElem_cons_zero, List.setIfInBounds_toArray, List.set_cons_zero, List.set_cons_succ]
  refine WD_free (i := 8) (oi := _) (v := ?_) rfl (by kernel_rfl) (fun _ _ _ h => h) (Or.inl ⟨by rfl, ?_⟩) ?_
  rotate_left
  · (intro W hS; (try dsimp only at hS); clear hS; go_simp; with_reducible rfl)
  try simp only [Act.put, List.getElem_toArray, List.getElem_cons_succ, List.getElem_cons_zero, List.setIfInBounds_toArray, List.set_cons_zero, List.set_cons_succ]
  refine WD_free (i := 9) (oi := _) (v := ?_) rfl (by kernel_rfl) (fun _ _ _ h => h) (Or.inl ⟨by rfl, ?_⟩) ?_
  rotate_left
  · (intro W hS; (try dsimp only at hS); clear hS; go_simp; with_reducible rfl)
  try simp only [Act.put, List.getElem_toArray, List.getElem_cons_succ, List.getElem_cons_zero, List.setIfInBounds_toArray, List.set_cons_zero, List.set_cons_succ]
  refine WD_free (i := 10) (oi := _) (v := ?_) rfl (by kernel_rfl) (fun _ _ _ h => h) (Or.inl ⟨by rfl, ?_⟩) ?_
  rotate_left
  · (intro W hS; (try dsimp only at hS); clear hS; go_simp; with_reducible rfl)
  try simp only [Act.put, List.getElem_toArray, List.getElem_cons_succ, List.getElem_cons_zero, List.setIfInBounds_toArray, List.set_cons_zero, List.set_cons_succ]
  refine WD_free (i := 11) (oi := _) (v := ?_) rfl (by kernel_rfl) (fun _ _ _ h => h) (Or.inl ⟨by rfl, ?_⟩) ?_
  rotate_left
  · (intro W hS; (try dsimp only at hS); clear hS; go_simp; with_reducible rfl)
  try simp only [Act.put, List.getElem_toArray, List.getElem_cons_succ, List.getElem_cons_zero, List.setIfInBounds_toArray, List.set_cons_zero, List.set_cons_succ]
  refine WD_done (by kernel_rfl) ?_ _
  have hb7 := hHeld
  clear hHeld
  replace k0 := kept hb7 k0 (World.block_lt_of_cell? _ _ k0)
  replace k1 := kept hb7 k1 (World.block_lt_of_cell? _ _ k1)
  replace k2 := kept hb7 k2 (World.block_lt_of_cell? _ _ k2)
  have hbw7 := below_two hbw hb7
  clear hb7 hbw
  go_wp2_with fail
  refine wp_region_D (S := (fun W : World => Below w6.heap.size w6 W)) (fun _ => true) (by kernel_rfl) (Below.refl _ _).drew (fun hHeld => ?_)
  simp only [List.size_toArray, List.length_cons, List.length_nil, Nat.reduceAdd, Array.replicate_succ, Array.replicate_zero, List.push_toArray, List.append_toArray, List.nil_append, List.cons_append]
  refine WD_take (i := 0) (oi := _) (v := ?_) rfl (by kernel_rfl) (fun _ _ _ h => h) (Or.inl ⟨by rfl, ?_⟩) (by assumption) ?_
  rotate_left
  · (intro W hS; (try dsimp only at hS); have q0 := (hS.cell (p := ⟨w.heap.size, 0, none⟩) (World.block_lt_of_cell? _ _ k0)).trans k0; have q1 := (hS.cell (p := ⟨w.heap.size, 1, none⟩) (World.block_lt_of_cell? _ _ k1)).trans k1; have q2 := (hS.cell (p := ⟨w.heap.size, 2, none⟩) (World.block_lt_of_cell? _ _ k2)).trans k2; clear hS; go_simp; with_reducible rfl)
  try simp only [Act.put, List.getElem_toArray, List.getElem_cons_succ, List.getElem_cons_zero, List.setIfInBounds_toArray, List.set_cons_zero, List.set_cons_succ]
  refine WD_free (i := 1) (oi := _) (v := ?_) rfl (by kernel_rfl) (fun _ _ _ h => h) (Or.inl ⟨by rfl, ?_⟩) ?_
  rotate_left
  · (intro W hS; (try dsimp only at hS); clear hS; go_simp; with_reducible rfl)
  try simp only [Act.put, List.getElem_toArray, List.getElem_cons_succ, List.getElem_cons_zero, List.setIfInBounds_toArray, List.set_cons_zero, List.set_cons_succ]
  refine WD_free (i := 3) (oi := _) (v := ?_) rfl (by kernel_rfl) (fun _ _ _ h => h) (Or.inl ⟨by rfl, ?_⟩) ?_
  rotate_left
  · (intro W hS; (try dsimp only at hS); clear hS; go_simp; with_reducible rfl)
  try simp only [Act.put, List.getElem_toArray, List.getElem_cons_succ, List.getElem_cons_zero, List.setIfInBounds_toArray, List.set_cons_zero, List.set_cons_succ]
  refine WD_free (i := 5) (oi := _) (v := ?_) rfl (by kernel_rfl) (fun _ _ _ h => h) (Or.inl ⟨by rfl, ?_⟩) ?_
  rotate_left
  · (intro W hS; (try dsimp only at hS); clear hS; go_simp; with_reducible rfl)
  try simp only [Act.put, List.getElem_toArray, List.getElem_cons_succ, List.getElem_cons_zero, List.setIfInBounds_toArray, List.set_cons_zero, List.set_cons_succ]
  refine WD_free (i := 6) (oi := _) (v := ?_) rfl (by kernel_rfl) (fun _ _ _ h => h) (Or.inl ⟨by rfl, ?_⟩) ?_
  rotate_left
  · (intro W hS; (try dsimp only at hS); clear hS; go_simp; with_reducible rfl)
  try simp only [Act.put, List.getElem_toArray, List.getElem_cons_succ, List.getElem_cons_zero, List.setIfInBounds_toArray, List.set_cons_zero, List.set_cons_succ]
  refine WD_take (i := 7) (oi := _) (v := ?_) rfl (by kernel_rfl) (fun _ _ _ h => h) (Or.inl ⟨by rfl, ?_⟩) (by assumption) ?_
  rotate_left
  · (intro W hS; (try dsimp only at hS); have q0 := (hS.cell (p := ⟨w.heap.size, 0, none⟩) (World.block_lt_of_cell? _ _ k0)).trans k0; clear hS; go_simp; with_reducible rfl)
  try simp only [Act.put, List.getElem_toArray, List.getElem_cons_succ, List.getElem_cons_zero, List.setIfInBounds_toArray, List.set_cons_zero, List.set_cons_succ]
  refine WD_step (i := 2) (o := _) rfl (by kernel_rfl) (fun K hK => ?_)
  go_simp
  refine (HMa.out _).mono ?_
  rintro e w8 ⟨rfl, hb8⟩
  go_wp2_with fail
  replace hHeld := below_two hHeld hb8
  refine hK.out _ _ (fun _ _ => hHeld) ?_
  clear hK K
  try simp only [Act.put, List.getElem_toArray, List.getElem_cons_succ, List.getElem_cons_zero, List.setIfInBounds_toArray, List.set_cons_zero, List.set_cons_succ]
  refine WD_free (i := 4) (oi := _) (v := ?_) rfl (by kernel_rfl) (fun _ _ _ h => h) (Or.inl ⟨by rfl, ?_⟩) ?_
  rotate_left
  · (intro W hS; (try dsimp only at hS); clear hS; go_simp; with_reducible rfl)
  try simp only [Act.put, List.getElem_toArray, List.getElem_cons_succ, List.getElem_cons_zero, List.setIfInBounds_toArray, List.set_cons_zero, List.set_cons_succ]
  refine WD_free (i := 8) (oi := _) (v := ?_) rfl (by kernel_rfl) (fun _ _ _ h => h) (Or.inl ⟨by rfl, ?_⟩) ?_
  rotate_left
  · (intro W hS; (try dsimp only at hS); clear hS; go_simp; with_reducible rfl)
  try simp only [Act.put, List.getElem_toArray, List.getElem_cons_succ, List.getElem_cons_zero, List.setIfInBounds_toArray, List.set_cons_zero, List.set_cons_succ]
  refine WD_free (i := 9) (oi := _) (v := ?_) rfl (by kernel_rfl) (fun _ _ _ h => h) (Or.inl ⟨by rfl, ?_⟩) ?_
  rotate_left
  · (intro W hS; (try dsimp only at hS); clear hS; go_simp; with_reducible rfl)
  try simp only [Act.put, List.getElem_toArray, List.getElem_cons_succ, List.getElem_cons_zero, List.setIfInBounds_toArray, List.set_cons_zero, List.set_cons_succ]
  refine WD_done (by kernel_rfl) ?_ _
  go_wp2
  go_ret
  exact ⟨by rw [← HO.out]; rfl, below_two hbw7 hHeld⟩
set_option maxRecDepth 100000 in
set_option maxHeartbeats 3200000 in
theorem curve_right (N : Nat) (A B x : Int) (w : World) (h1 : 1 ≤ N) (h2 : N ≤ 1048576) (a1 : 0 ≤ A) (a2 : A < N) (b1 : 0 ≤ B) (b2 : B < N) (x1 : 0 ≤ x) (x2 : x < N) :
    Calls Try.prog 14 #[.agg #[.int .i64 N, .int .i64 A, .int .i64 B], .int .i64 x] w fun e w' => e = .returned (.int .i64 (((x * x % N + A) * x % N + B) % N)) ∧ Below w.heap.size w w' := by
  have m1 := mul_lim x1 (by omega) x1 (by omega)
  have m2 : IntKind.i64.wrap (x * x) = x * x := IntWalk.i64_in _ (by omega)
  have m3 : (x * x).tmod N = x * x % N := Int.tmod_eq_emod_of_nonneg (by omega)
  have y1 := Int.emod_nonneg (x * x) (show (N : Int) ≠ 0 by omega)
  have y2 := Int.emod_lt_of_pos (x * x) (show (0 : Int) < N by omega)
  obtain ⟨y, hy⟩ : ∃ y, x * x % (N : Int) = y := ⟨_, rfl⟩
  rw [hy] at m3 y1 y2 ⊢
  have n0 : IntKind.i64.wrap (y + A) = y + A := IntWalk.i64_in _ (by omega)
  have n1 : 0 ≤ (y + A) * x ∧ (y + A) * x ≤ 2097152 * 1048576 := ⟨Int.mul_nonneg (by omega) x1, Int.mul_le_mul (by omega) (by omega) x1 (by omega)⟩
  have n2 : IntKind.i64.wrap ((y + A) * x) = (y + A) * x := IntWalk.i64_in _ (by omega)
  have n3 : ((y + A) * x).tmod N = (y + A) * x % N := Int.tmod_eq_emod_of_nonneg (by omega)
  have z1 := Int.emod_nonneg ((y + A) * x) (show (N : Int) ≠ 0 by omega)
  have z2 := Int.emod_lt_of_pos ((y + A) * x) (show (0 : Int) < N by omega)
  obtain ⟨z, hz⟩ : ∃ z, (y + A) * x % (N : Int) = z := ⟨_, rfl⟩
  rw [hz] at n3 z1 z2 ⊢
  have n4 : IntKind.i64.wrap (z + B) = z + B := IntWalk.i64_in _ (by omega)
  have t1 : ((N : Int) == 0) = false := by simp; omega
  have t2 : ¬ (N : Int) = 0 := by omega
  have t3 : ¬ N = 0 := by omega
  have HM := Lib.hid fun w => curve_mod N A B (z + B) w h1 h2
  clear hy hz
  go_enter Try.func14, Try.ntmps14
  go_wp2_with fail
  obtain ⟨w1, hw1⟩ : ∃ W, W = w.alloc (.cells #[.int .i64 N, .int .i64 A, .int .i64 B] 39) := ⟨_, rfl⟩
  have k0 : w1.cell? ⟨w.heap.size, 0, none⟩ = some (.int .i64 N) := by rw [hw1]; simp [go_sem]
  have k1 : w1.cell? ⟨w.heap.size, 1, none⟩ = some (.int .i64 A) := by rw [hw1]; simp [go_sem]
  have k2 : w1.cell? ⟨w.heap.size, 2, none⟩ = some (.int .i64 B) := by rw [hw1]; simp [go_sem]
  have hbw : Below w.heap.size w w1 := by rw [hw1]; exact (Below.refl _ _).alloc (Nat.le_refl _) _
  rw [← hw1]
  clear hw1
  refine wp_region_D (S := (fun W : World => Below w1.heap.size w1 W)) (fun _ => true) (by kernel_rfl) (Below.refl _ _).drew (fun hHeld => ?_)
  simp only [List.size_toArray, List.length_cons, List.length_nil, Nat.reduceAdd, Array.replicate_succ, Array.replicate_zero, List.push_toArray, List.append_toArray, List.nil_append, List.cons_append]
  refine WD_take (i := 0) (oi := _) (v := ?_) rfl (by kernel_rfl) (fun _ _ _ h => h) (Or.inl ⟨by rfl, ?_⟩) (by assumption) ?_
  rotate_left
  · (intro W hS; (try dsimp only at hS); have q0 := (hS.cell (p := ⟨w.heap.size, 0, none⟩) (World.block_lt_of_cell? _ _ k0)).trans k0; have q1 := (hS.cell (p := ⟨w.heap.size, 1, none⟩) (World.block_lt_of_cell? _ _ k1)).trans k1; have q2 := (hS.cell (p := ⟨w.heap.size, 2, none⟩) (World.block_lt_of_cell? _ _ k2)).trans k2; clear hS; go_simp; with_reducible rfl)
  try simp only [Act.put, List.getElem_toArray, List.getElem_cons_succ, List.getElem_cons_zero, List.setIfInBounds_toArray, List.set_cons_zero, List.set_cons_succ]
  refine WD_free (i := 1) (oi := _) (v := ?_) rfl (by kernel_rfl) (fun _ _ _ h => h) (Or.inl ⟨by rfl, ?_⟩) ?_
  rotate_left
  · (intro W hS; (try dsimp only at hS); clear hS; go_simp; with_reducible rfl)
  try simp only [Act.put, List.getElem_toArray, List.getElem_cons_succ, List.getElem_cons_zero, List.setIfInBounds_toArray, List.set_cons_zero, List.set_cons_succ]
  refine WD_free (i := 2) (oi := _) (v := ?_) rfl (by kernel_rfl) (fun _ _ _ h => h) (Or.inl ⟨by rfl, ?_⟩) ?_
  rotate_left
  · (intro W hS; (try dsimp only at hS); clear hS; go_simp; with_reducible rfl)
  try simp only [Act.put, List.getElem_toArray, List.getElem_cons_succ, List.getElem_cons_zero, List.setIfInBounds_toArray, List.set_cons_zero, List.set_cons_succ]
  refine WD_free (i := 3) (oi := _) (v := ?_) rfl (by kernel_rfl) (fun _ _ _ h => h) (Or.inl ⟨by rfl, ?_⟩) ?_
  rotate_left
  · (intro W hS; (try dsimp only at hS); clear hS; go_simp; with_reducible rfl)
  try simp only [Act.put, List.getElem_toArray, List.getElem_cons_succ, List.getElem_cons_zero, List.setIfInBounds_toArray, List.set_cons_zero, List.set_cons_succ]
  refine WD_free (i := 4) (oi := _) (v := ?_) rfl (by kernel_rfl) (fun _ _ _ h => h) (Or.inl ⟨by rfl, ?_⟩) ?_
  rotate_left
  · (intro W hS; (try dsimp only at hS); clear hS; go_simp; with_reducible rfl)
  try simp only [Act.put, List.getElem_toArray, List.getElem_cons_succ, List.getElem_cons_zero, List.setIfInBounds_toArray, List.set_cons_zero, List.set_cons_succ]
  refine WD_free (i := 5) (oi := _) (v := ?_) rfl (by kernel_rfl) (fun _ _ _ h => h) (Or.inl ⟨by rfl, ?_⟩) ?_
  rotate_left
  · (intro W hS; (try dsimp only at hS); clear hS; go_simp; with_reducible rfl)
  try simp only [Act.put, List.getElem_toArray, List.getElem_cons_succ, List.getElem_cons_zero, List.setIfInBounds_toArray, List.set_cons_zero, List.set_cons_succ]
  refine WD_take (i := 6) (oi := _) (v := ?_) rfl (by kernel_rfl) (fun _ _ _ h => h) (Or.inl ⟨by rfl, ?_⟩) (by assumption) ?_
  rotate_left
  · (intro W hS; (try dsimp only at hS); have q0 := (hS.cell (p := ⟨w.heap.size, 0, none⟩) (World.block_lt_of_cell? _ _ k0)).trans k0; clear hS; go_simp; with_reducible rfl)
  try simp only [Act.put, List.getElem_toArray, List.getElem_cons_succ, List.getElem_cons_zero, List.setIfInBounds_toArray, List.set_cons_zero, List.set_cons_succ]
  refine WD_free (i := 7) (oi := _) (v := ?_) rfl (by kernel_rfl) (fun _ _ _ h => h) (Or.inl ⟨by rfl, ?_⟩) ?_
  rotate_left
  · (intro W hS; (try dsimp only at hS); clear hS; go_simp; with_reducible rfl)
  try simp only [Act.put, List.getElem_toArray, List.getElem_cons_succ, List.getElem_cons_zero, List.setIfInBounds_toArray, List.set_cons_zero, List.set_cons_succ]
  refine WD_free (i := 8) (oi := _) (v := ?_) rfl (by kernel_rfl) (fun _ _ _ h => h) (Or.inl ⟨by rfl, ?_⟩) ?_
  rotate_left
  · (intro W hS; (try dsimp only at hS); clear hS; go_simp; with_reducible rfl)
  try simp only [Act.put, List.getElem_toArray, List.getElem_cons_succ, List.getElem_cons_zero, List.setIfInBounds_toArray, List.set_cons_zero, List.set_cons_succ]
  refine WD_free (i := 9) (oi := _) (v := ?_) rfl (by kernel_rfl) (fun _ _ _ h => h) (Or.inl ⟨by rfl, ?_⟩) ?_
  rotate_left
  · (intro W hS; (try dsimp only at hS); clear hS; go_simp; with_reducible rfl)
  try simp only [Act.put, List.getElem_toArray, List.getElem_cons_succ, List.getElem_cons_zero, List.setIfInBounds_toArray, List.set_cons_zero, List.set_cons_succ]
  refine WD_take (i := 10) (oi := _) (v := ?_) rfl (by kernel_rfl) (fun _ _ _ h => h) (Or.inl ⟨by rfl, ?_⟩) (by assumption) ?_
  rotate_left
  · (intro W hS; (try dsimp only at hS); have q1 := (hS.cell (p := ⟨w.heap.size, 1, none⟩) (World.block_lt_of_cell? _ _ k1)).trans k1; clear hS; go_simp; with_reducible rfl)
  try simp only [Act.put, List.getElem_toArray, List.getElem_cons_succ, List.getElem_cons_zero, List.setIfInBounds_toArray, List.set_cons_zero, List.set_cons_succ]
  refine WD_free (i := 11) (oi := _) (v := ?_) rfl (by kernel_rfl) (fun _ _ _ h => h) (Or.inl ⟨by rfl, ?_⟩) ?_
  rotate_left
  · (intro W hS; (try dsimp only at hS); clear hS; go_simp; with_reducible rfl)
  try simp only [Act.put, List.getElem_toArray, List.getElem_cons_succ, List.getElem_cons_zero, List.setIfInBounds_toArray, List.set_cons_zero, List.set_cons_succ]
  refine WD_free (i := 12) (oi := _) (v := ?_) rfl (by kernel_rfl) (fun _ _ _ h => h) (Or.inl ⟨by rfl, ?_⟩) ?_
  rotate_left
  · (intro W hS; (try dsimp only at hS); clear hS; go_simp; with_reducible rfl)
  try simp only [Act.put, List.getElem_toArray, List.getElem_cons_succ, List.getElem_cons_zero, List.setIfInBounds_toArray, List.set_cons_zero, List.set_cons_succ]
  refine WD_free (i := 13) (oi := _) (v := ?_) rfl (by kernel_rfl) (fun _ _ _ h => h) (Or.inl ⟨by rfl, ?_⟩) ?_
  rotate_left
  · (intro W hS; (try dsimp only at hS); clear hS; go_simp; with_reducible rfl)
  try simp only [Act.put, List.getElem_toArray, List.getElem_cons_succ, List.getElem_cons_zero, List.setIfInBounds_toArray, List.set_cons_zero, List.set_cons_succ]
  refine WD_free (i := 14) (oi := _) (v := ?_) rfl (by kernel_rfl) (fun _ _ _ h => h) (Or.inl ⟨by rfl, ?_⟩) ?_
  rotate_left
  · (intro W hS; (try dsimp only at hS); clear hS; go_simp; with_reducible rfl)
  try simp only [Act.put, List.getElem_toArray, List.getElem_cons_succ, List.getElem_cons_zero, List.setIfInBounds_toArray, List.set_cons_zero, List.set_cons_succ]
  refine WD_free (i := 15) (oi := _) (v := ?_) rfl (by kernel_rfl) (fun _ _ _ h => h) (Or.inl ⟨by rfl, ?_⟩) ?_
  rotate_left
  · (intro W hS; (try dsimp only at hS); clear hS; go_simp; with_reducible rfl)
  try simp only [Act.put, List.getElem_toArray, List.getElem_cons_succ, List.getElem_cons_zero, List.setIfInBounds_toArray, List.set_cons_zero, List.set_cons_succ]
  refine WD_take (i := 16) (oi := _) (v := ?_) rfl (by kernel_rfl) (fun _ _ _ h => h) (Or.inl ⟨by rfl, ?_⟩) (by assumption) ?_
  rotate_left
  · (intro W hS; (try dsimp only at hS); have q0 := (hS.cell (p := ⟨w.heap.size, 0, none⟩) (World.block_lt_of_cell? _ _ k0)).trans k0; clear hS; go_simp; with_reducible rfl)
  try simp only [Act.put, List.getElem_toArray, List.getElem_cons_succ, List.getElem_cons_zero, List.setIfInBounds_toArray, List.set_cons_zero, List.set_cons_succ]
  refine WD_free (i := 17) (oi := _) (v := ?_) rfl (by kernel_rfl) (fun _ _ _ h => h) (Or.inl ⟨by rfl, ?_⟩) ?_
  rotate_left
  · (intro W hS; (try dsimp only at hS); clear hS; go_simp; with_reducible rfl)
  try simp only [Act.put, List.getElem_toArray, List.getElem_cons_succ, List.getElem_cons_zero, List.setIfInBounds_toArray, List.set_cons_zero, List.set_cons_succ]
  refine WD_free (i := 18) (oi := _) (v := ?_) rfl (by kernel_rfl) (fun _ _ _ h => h) (Or.inl ⟨by rfl, ?_⟩) ?_
  rotate_left
  · (intro W hS; (try dsimp only at hS); clear hS; go_simp; with_reducible rfl)
  try simp only [Act.put, List.getElem_toArray, List.getElem_cons_succ, List.getElem_cons_zero, List.setIfInBounds_toArray, List.set_cons_zero, List.set_cons_succ]
  refine WD_free (i := 19) (oi := _) (v := ?_) rfl (by kernel_rfl) (fun _ _ _ h => h) (Or.inl ⟨by rfl, ?_⟩) ?_
  rotate_left
  · (intro W hS; (try dsimp only at hS); clear hS; go_simp; with_reducible rfl)
  try simp only [Act.put, List.getElem_toArray, List.getElem_cons_succ, List.getElem_cons_zero, List.setIfInBounds_toArray, List.set_cons_zero, List.set_cons_succ]
  refine WD_take (i := 20) (oi := _) (v := ?_) rfl (by kernel_rfl) (fun _ _ _ h => h) (Or.inl ⟨by rfl, ?_⟩) (by assumption) ?_
  rotate_left
  · (intro W hS; (try dsimp only at hS); have q2 := (hS.cell (p := ⟨w.heap.size, 2, none⟩) (World.block_lt_of_cell? _ _ k2)).trans k2; clear hS; go_simp; with_reducible rfl)
  try simp only [Act.put, List.getElem_toArray, List.getElem_cons_succ, List.getElem_cons_zero, List.setIfInBounds_toArray, List.set_cons_zero, List.set_cons_succ]
  refine WD_free (i := 21) (oi := _) (v := ?_) rfl (by kernel_rfl) (fun _ _ _ h => h) (Or.inl ⟨by rfl, ?_⟩) ?_
  rotate_left
  · (intro W hS; (try dsimp only at hS); clear hS; go_simp; with_reducible rfl)
  try simp only [Act.put, List.getElem_toArray, List.getElem_cons_succ, List.getElem_cons_zero, List.setIfInBounds_toArray, List.set_cons_zero, List.set_cons_succ]
  refine WD_step (i := 22) (o := _) rfl (by kernel_rfl) (fun K hK => ?_)
  go_simp
  refine (HM.out _).mono ?_
  rintro e w5 ⟨rfl, hb5⟩
  go_wp2_with fail
  replace hHeld := below_two hHeld hb5
  refine hK.out _ _ (fun _ _ => hHeld) ?_
  clear hK K
  try simp only [Act.put, List.getElem_toArray, List.getElem_cons_succ, List.getElem_cons_zero, List.setIfInBounds_toArray, List.set_cons_zero, List.set_cons_succ]
  refine WD_free (i := 23) (oi := _) (v := ?_) rfl (by kernel_rfl) (fun _ _ _ h => h) (Or.inl ⟨by rfl, ?_⟩) ?_
  rotate_left
  · (intro W hS; (try dsimp only at hS); clear hS; go_simp; with_reducible rfl)
  try simp only [Act.put, List.getElem_toArray, List.getElem_cons_succ, List.getElem_cons_zero, List.setIfInBounds_toArray, List.set_cons_zero, List.set_cons_succ]
  refine WD_done (by kernel_rfl) ?_ _
  go_wp2
  go_ret
  exact ⟨rfl, below_two hbw hHeld⟩
set_option maxHeartbeats 3200000 in
theorem curve_neg (N : Nat) (A B : Int) (s : Sp) (w : World) (h1 : 1 ≤ N) (h2 : N ≤ 1048576) (y1 : 0 ≤ s.y) (y2 : s.y < N) :
    Calls Try.prog 18 #[.agg #[.int .i64 N, .int .i64 A, .int .i64 B], .agg #[.int .i64 s.x, .int .i64 s.y, .bool s.far]] w fun e w' => e = .returned (.agg #[.int .i64 (negS N s).x, .int .i64 (negS N s).y, .bool (negS N s).far]) ∧ Below w.heap.size w w' := by
  obtain ⟨x, y, f⟩ := s
  simp only [negS] at y1 y2 ⊢
  have HM := Lib.hid fun w => curve_mod N A B (-y) w h1 h2
  obtain ⟨z, hz⟩ : ∃ z, (-y) % (N : Int) = z := ⟨_, rfl⟩
  rw [hz] at HM ⊢
  have n1 : IntKind.i64.wrap (-y) = -y := IntWalk.i64_in _ (by omega)
  clear hz
  go_enter Try.func18, Try.ntmps18
  go_wp2_with fail
  refine (HM.out _).mono ?_
  rintro e w1 ⟨rfl, hb1⟩
  have z1 := hb1.size
  simp at z1
  have c0 := kept hb1 (b := w.heap.size + 1) (o := 0) (v := .int .i64 x) (by simp [go_sem]) (by simp [go_sem] <;> omega)
  have c1 := kept hb1 (b := w.heap.size + 1) (o := 1) (v := .int .i64 y) (by simp [go_sem]) (by simp [go_sem] <;> omega)
  have c2 := kept hb1 (b := w.heap.size + 1) (o := 2) (v := .bool f) (by simp [go_sem]) (by simp [go_sem] <;> omega)
  have d1 := (froz hb1 (b := w.heap.size + 1) (o := 1) (by simp [go_sem] <;> omega)).trans (show _ = false by simp [go_sem])
  have r0 := kept hb1 (b := w.heap.size + 1 + 1) (o := 0) (v := .int .i64 0) (by simp [go_sem]) (by simp [go_sem] <;> omega)
  have r1 := kept hb1 (b := w.heap.size + 1 + 1) (o := 1) (v := .int .i64 0) (by simp [go_sem]) (by simp [go_sem] <;> omega)
  have r2 := kept hb1 (b := w.heap.size + 1 + 1) (o := 2) (v := .bool false) (by simp [go_sem]) (by simp [go_sem] <;> omega)
  have s0 := (froz hb1 (b := w.heap.size + 1 + 1) (o := 0) (by simp [go_sem] <;> omega)).trans (show _ = false by simp [go_sem])
  have s1 := (froz hb1 (b := w.heap.size + 1 + 1) (o := 1) (by simp [go_sem] <;> omega)).trans (show _ = false by simp [go_sem])
  have s2 := (froz hb1 (b := w.heap.size + 1 + 1) (o := 2) (by simp [go_sem] <;> omega)).trans (show _ = false by simp [go_sem])
  have hbw := below_two ((((Below.refl w.heap.size w).alloc (Nat.le_refl _) _).alloc (by simp <;> omega) _).alloc (by simp <;> omega) _) hb1
  go_wp2
  refine bodyPost_ret (v := .agg #[.int .i64 x, .int .i64 z, .bool f]) ?_ rfl ?_
  · simp [results, Try.f18, go_sem, r0, r1, r2, c0, c1, c2]
  · exact ⟨rfl, (((hbw.setCell (by simp <;> omega) _).setCell (by simp <;> omega) _).setCell (by simp <;> omega) _).setCell (by simp <;> omega) _⟩
end Go.Proofs.Ytnheboamjfahaaa
