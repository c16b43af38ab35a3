/- The contracts of shake.Answer and shake.Finish where all is good. -/
import Derived.Test.YtgmkmlfppblpfaaAsk
import Derived.Test.YtgmkmlfppblpfaaHold
import Derived.Deep.RegionWith
import Derived.Deep.RegionHeld3
namespace Go.Proofs.Ytgmkmlfppblpfaa
open Go.RowKit
set_option linter.unusedVariables false
set_option linter.unusedSimpArgs false
/-- the text that both sums are of -/
def shkN (t e s x y : Int) : List Nat := txtN [t.toNat, e.toNat, s.toNat, x.toNat, y.toNat]
theorem shkN_len (t e s x y : Int) : (shkN t e s x y).length = 20 := by simp [shkN, txtN_len]
theorem txtN_lt (zs : List Nat) : ∀ x ∈ txtN zs, x < 256 := fun x hx => by
  obtain ⟨z, _, hz⟩ := List.mem_flatMap.1 hx
  exact litN_lt _ _ x hz
theorem AskAt.drew {W : World} {b : Nat} {P Q G H : Int} (h : AskAt W b P Q G H) : AskAt W.drew b P Q G H := ⟨h.lt, h.c0, h.c1, h.c2, h.c3, h.c4, h.fr⟩
theorem AskAt.cell4 {W : World} {b : Nat} {P Q G H : Int} (h : AskAt W b P Q G H) : W.cell? ⟨b, 4, none⟩ = some (.int .i64 0) := h.c4
/-- the text of five numbers, and its sums -/
theorem shake_five (t e s x y : Int) (w : World) (h1 : 0 ≤ t ∧ t ≤ 1048576) (h2 : 0 ≤ e ∧ e ≤ 1048576) (h3 : 0 ≤ s ∧ s ≤ 1048576) (h4 : 0 ≤ x ∧ x ≤ 1048576) (h5 : 0 ≤ y ∧ y ≤ 1048576) (B : Nat)
    (hc : ∀ (j : Nat) v, [t, e, s, x, y][j]? = some v → w.cell? ⟨B, j, none⟩ = some (.int .i64 v)) (hB : B < w.heap.size) :
    Calls Try.prog 53 #[.slice (some ⟨B, 0, none⟩) 5 5] w fun r w' => ∃ (a : Option Addr) (c : Nat), r = .returned (.slice a 20 c) ∧ Below w.heap.size w w' ∧ RowB w' a c (shkN t e s x y) := by
  have hmap : ([t.toNat, e.toNat, s.toNat, x.toNat, y.toNat].map Int.ofNat) = [t, e, s, x, y] := by
    simp [Int.toNat_of_nonneg h1.1, Int.toNat_of_nonneg h2.1, Int.toNat_of_nonneg h3.1, Int.toNat_of_nonneg h4.1, Int.toNat_of_nonneg h5.1]
  refine (shake_text (some ⟨B, 0, none⟩) 5 [t.toNat, e.toNat, s.toNat, x.toNat, y.toNat] w ?_ (by simp) (fun z hz => ?_)).mono ?_
  · rw [hmap]
    intro j v hv
    exact ⟨B, 0, rfl, hB, by rw [Nat.zero_add]; exact hc j v hv⟩
  · simp at hz; omega
  · rintro r w' ⟨v, rfl, hb, hr⟩
    have hl : (byV (txtN [t.toNat, e.toNat, s.toNat, x.toNat, y.toNat])).length = 20 := by rw [byV_len, txtN_len]; rfl
    obtain ⟨a, c, rfl, h2, _⟩ := own_rowB (ys := shkN t e s x y) (by rw [shkN_len]; exact hr)
    exact ⟨a, c, by rw [shkN_len], hb, h2⟩
set_option maxRecDepth 100000 in
set_option maxHeartbeats 6400000 in
theorem shake_Answer (P Q G H s k t : Int) (w : World) (p1 : 2 ≤ P) (p2 : P ≤ 1048576) (ht : 0 ≤ t ∧ t ≤ 1048576) (hs1 : shE P Q G H s G = 0) (hs2 : shE P Q G H k G = 0) (hs3 : shE P Q G H s t = 0) (hs4 : shE P Q G H k t = 0) :
    Calls Try.prog 33 #[.agg #[.int .i64 P, .int .i64 Q, .int .i64 G, .int .i64 H], .int .i64 s, .int .i64 k, .int .i64 t] w fun e w' => e = .returned (.tuple #[.agg #[.int .i64 (pw G k P), .int .i64 (sumN (2 :: shkN t (pw G k P) (pw G s P) (pw t s P) (pw t k P))), .int .i64 (sumN (1 :: shkN t (pw G k P) (pw G s P) (pw t s P) (pw t k P)))], .int .i64 0]) ∧ Below w.heap.size w w' := by
  have H1 := Lib.hid hs1
  have H2 := Lib.hid hs2
  have H3 := Lib.hid hs3
  have H4 := Lib.hid hs4
  clear hs1 hs2 hs3 hs4
  go_enter Try.func33, Try.ntmps33
  go_wp2_with fail
  obtain ⟨W0, hW0⟩ : ∃ W, W = ((w.alloc (.cells #[.int .i64 P, .int .i64 Q, .int .i64 G, .int .i64 H] 23)).alloc (.cells #[.int .i64 0, .int .i64 0, .int .i64 0] 58)).alloc (.cells #[.int .i64 P, .int .i64 Q, .int .i64 G, .int .i64 H, .int .i64 0] 80) := ⟨_, rfl⟩
  obtain ⟨b, hb⟩ : ∃ b, b = w.heap.size + 1 + 1 := ⟨_, rfl⟩
  have hA0 : AskAt W0 b P Q G H := by
    rw [hW0, hb]; exact ⟨by simp, by simp [go_sem], by simp [go_sem], by simp [go_sem], by simp [go_sem], by simp [go_sem], by simp [go_sem]⟩
  have g2 : W0.cell? ⟨w.heap.size, 2, none⟩ = some (.int .i64 G) := by rw [hW0]; simp [go_sem]
  have r0 : W0.cell? ⟨w.heap.size + 1, 0, none⟩ = some (.int .i64 0) := by rw [hW0]; simp [go_sem]
  have r1 : W0.cell? ⟨w.heap.size + 1, 1, none⟩ = some (.int .i64 0) := by rw [hW0]; simp [go_sem]
  have r2 : W0.cell? ⟨w.heap.size + 1, 2, none⟩ = some (.int .i64 0) := by rw [hW0]; simp [go_sem]
  have s0 : W0.frozen? ⟨w.heap.size + 1, 0, none⟩ = false := by rw [hW0]; simp [go_sem]
  have s1 : W0.frozen? ⟨w.heap.size + 1, 1, none⟩ = false := by rw [hW0]; simp [go_sem]
  have s2 : W0.frozen? ⟨w.heap.size + 1, 2, none⟩ = false := by rw [hW0]; simp [go_sem]
  have hbw : Below w.heap.size w W0 := by rw [hW0]; exact (((Below.refl _ _).alloc (Nat.le_refl _) _).alloc (by simp) _).alloc (by simp <;> omega) _
  have hbe : w.heap.size + 1 < b := by omega
  rw [← hW0, ← hb]
  clear hW0 hb
  refine (asked_shared P Q G H s G b b _ hA0 (Nat.le_refl _) H1.out).mono ?_
  rintro e w1 ⟨rfl, hA1, hB1⟩
  have G1 := (hB1.1.cell (p := ⟨w.heap.size, 2, none⟩) (by simp; omega)).trans g2
  have hK1 : Below b W0 w1 := hB1.1
  have S1 : (AskAt w1.drew b P Q G H ∧ w1.drew.cell? ⟨w.heap.size, 2, none⟩ = some (.int .i64 G)) := ⟨hA1.drew, G1⟩
  replace hK1 : Below b W0 w1.drew := hK1.drew
  clear hA0 hB1
  go_wp2_with fail
  refine wp_region_D (S := (fun w' : World => AskAt w' b P Q G H ∧ w'.cell? ⟨w.heap.size, 2, none⟩ = some (.int .i64 G))) (fun _ => true) (by kernel_rfl) S1 (fun hHeld => ?_)
  simp only [List.size_toArray, List.length_cons, List.length_nil, Nat.reduceAdd, Array.replicate_succ, Array.replicate_zero, List.push_toArray, List.append_toArray, List.nil_append, List.cons_append]
  refine WD_free (i := 0) (oi := _) (v := ?_) rfl (by kernel_rfl) (fun _ _ _ h => h) (Or.inl ⟨by rfl, ?_⟩) ?_
  rotate_left
  · (intro W hS; (try dsimp only at hS); clear hS; go_simp; with_reducible rfl)
  try simp only [Act.put, List.getElem_toArray, List.getElem_cons_succ, List.getElem_cons_zero, List.setIfInBounds_toArray, List.set_cons_zero, List.set_cons_succ]
  refine WD_free (i := 1) (oi := _) (v := ?_) rfl (by kernel_rfl) (fun _ _ _ h => h) (Or.inl ⟨by rfl, ?_⟩) ?_
  rotate_left
  · (intro W hS; (try dsimp only at hS); clear hS; go_simp; with_reducible rfl)
  try simp only [Act.put, List.getElem_toArray, List.getElem_cons_succ, List.getElem_cons_zero, List.setIfInBounds_toArray, List.set_cons_zero, List.set_cons_succ]
  refine WD_free (i := 2) (oi := _) (v := ?_) rfl (by kernel_rfl) (fun _ _ _ h => h) (Or.inl ⟨by rfl, ?_⟩) ?_
  rotate_left
  · (intro W hS; (try dsimp only at hS); clear hS; go_simp; with_reducible rfl)
  try simp only [Act.put, List.getElem_toArray, List.getElem_cons_succ, List.getElem_cons_zero, List.setIfInBounds_toArray, List.set_cons_zero, List.set_cons_succ]
  refine WD_take (i := 3) (oi := _) (v := ?_) rfl (by kernel_rfl) (fun _ _ _ h => h) (Or.inl ⟨by rfl, ?_⟩) (by assumption) ?_
  rotate_left
  · (intro W hS; (try dsimp only at hS); have hSw := hS.2; clear hS; go_simp; with_reducible rfl)
  try simp only [Act.put, List.getElem_toArray, List.getElem_cons_succ, List.getElem_cons_zero, List.setIfInBounds_toArray, List.set_cons_zero, List.set_cons_succ]
  refine WD_free (i := 5) (oi := _) (v := ?_) rfl (by kernel_rfl) (fun _ _ _ h => h) (Or.inl ⟨by rfl, ?_⟩) ?_
  rotate_left
  · (intro W hS; (try dsimp only at hS); clear hS; go_simp; with_reducible rfl)
  try simp only [Act.put, List.getElem_toArray, List.getElem_cons_succ, List.getElem_cons_zero, List.setIfInBounds_toArray, List.set_cons_zero, List.set_cons_succ]
  refine WD_free (i := 6) (oi := _) (v := ?_) rfl (by kernel_rfl) (fun _ _ _ h => h) (Or.inl ⟨by rfl, ?_⟩) ?_
  rotate_left
  · (intro W hS; (try dsimp only at hS); clear hS; go_simp; with_reducible rfl)
  try simp only [Act.put, List.getElem_toArray, List.getElem_cons_succ, List.getElem_cons_zero, List.setIfInBounds_toArray, List.set_cons_zero, List.set_cons_succ]
  refine WD_free (i := 7) (oi := _) (v := ?_) rfl (by kernel_rfl) (fun _ _ _ h => h) (Or.inl ⟨by rfl, ?_⟩) ?_
  rotate_left
  · (intro W hS; (try dsimp only at hS); clear hS; go_simp; with_reducible rfl)
  try simp only [Act.put, List.getElem_toArray, List.getElem_cons_succ, List.getElem_cons_zero, List.setIfInBounds_toArray, List.set_cons_zero, List.set_cons_succ]
  refine WD_take (i := 8) (oi := _) (v := ?_) rfl (by kernel_rfl) (fun _ _ _ h => h) (Or.inl ⟨by rfl, ?_⟩) (by assumption) ?_
  rotate_left
  · (intro W hS; (try dsimp only at hS); have hSw := hS.2; clear hS; go_simp; with_reducible rfl)
  try simp only [Act.put, List.getElem_toArray, List.getElem_cons_succ, List.getElem_cons_zero, List.setIfInBounds_toArray, List.set_cons_zero, List.set_cons_succ]
  refine WD_free (i := 10) (oi := _) (v := ?_) rfl (by kernel_rfl) (fun _ _ _ h => h) (Or.inl ⟨by rfl, ?_⟩) ?_
  rotate_left
  · (intro W hS; (try dsimp only at hS); clear hS; go_simp; with_reducible rfl)
  try simp only [Act.put, List.getElem_toArray, List.getElem_cons_succ, List.getElem_cons_zero, List.setIfInBounds_toArray, List.set_cons_zero, List.set_cons_succ]
  refine WD_free (i := 11) (oi := _) (v := ?_) rfl (by kernel_rfl) (fun _ _ _ h => h) (Or.inl ⟨by rfl, ?_⟩) ?_
  rotate_left
  · (intro W hS; (try dsimp only at hS); clear hS; go_simp; with_reducible rfl)
  try simp only [Act.put, List.getElem_toArray, List.getElem_cons_succ, List.getElem_cons_zero, List.setIfInBounds_toArray, List.set_cons_zero, List.set_cons_succ]
  refine WD_free (i := 12) (oi := _) (v := ?_) rfl (by kernel_rfl) (fun _ _ _ h => h) (Or.inl ⟨by rfl, ?_⟩) ?_
  rotate_left
  · (intro W hS; (try dsimp only at hS); clear hS; go_simp; with_reducible rfl)
  try simp only [Act.put, List.getElem_toArray, List.getElem_cons_succ, List.getElem_cons_zero, List.setIfInBounds_toArray, List.set_cons_zero, List.set_cons_succ]
  refine WD_free (i := 14) (oi := _) (v := ?_) rfl (by kernel_rfl) (fun _ _ _ h => h) (Or.inl ⟨by rfl, ?_⟩) ?_
  rotate_left
  · (intro W hS; (try dsimp only at hS); clear hS; go_simp; with_reducible rfl)
  try simp only [Act.put, List.getElem_toArray, List.getElem_cons_succ, List.getElem_cons_zero, List.setIfInBounds_toArray, List.set_cons_zero, List.set_cons_succ]
  refine WD_free (i := 15) (oi := _) (v := ?_) rfl (by kernel_rfl) (fun _ _ _ h => h) (Or.inl ⟨by rfl, ?_⟩) ?_
  rotate_left
  · (intro W hS; (try dsimp only at hS); clear hS; go_simp; with_reducible rfl)
  try simp only [Act.put, List.getElem_toArray, List.getElem_cons_succ, List.getElem_cons_zero, List.setIfInBounds_toArray, List.set_cons_zero, List.set_cons_succ]
  refine WD_free (i := 16) (oi := _) (v := ?_) rfl (by kernel_rfl) (fun _ _ _ h => h) (Or.inl ⟨by rfl, ?_⟩) ?_
  rotate_left
  · (intro W hS; (try dsimp only at hS); clear hS; go_simp; with_reducible rfl)
  try simp only [Act.put, List.getElem_toArray, List.getElem_cons_succ, List.getElem_cons_zero, List.setIfInBounds_toArray, List.set_cons_zero, List.set_cons_succ]
  refine WD_step (i := 4) (o := _) rfl (by kernel_rfl) (fun K hK => ?_)
  go_simp
  go_at_call 51
  refine (asked_shared P Q G H k G b b _ hHeld.1 (Nat.le_refl _) H2.out).mono ?_
  rintro e w2 ⟨rfl, hA2, hB2⟩
  replace hK1 := hK1.trans hB2.1
  go_wp2_with fail
  replace hHeld := (⟨hA2, (hB2.1.cell (p := ⟨w.heap.size, 2, none⟩) (by simp; omega)).trans hHeld.2⟩ : (fun w' : World => AskAt w' b P Q G H ∧ w'.cell? ⟨w.heap.size, 2, none⟩ = some (.int .i64 G)) w2)
  refine hK.out _ _ (fun _ _ => hHeld) ?_
  clear hK K
  try simp only [Act.put, List.getElem_toArray, List.getElem_cons_succ, List.getElem_cons_zero, List.setIfInBounds_toArray, List.set_cons_zero, List.set_cons_succ]
  try dsimp only at hHeld
  refine WD_step (i := 9) (o := _) rfl (by kernel_rfl) (fun K hK => ?_)
  go_simp
  go_at_call 51
  refine (asked_shared P Q G H s G b b _ hHeld.1 (Nat.le_refl _) H1.out).mono ?_
  rintro e w3 ⟨rfl, hA3, hB3⟩
  replace hK1 := hK1.trans hB3.1
  go_wp2_with fail
  replace hHeld := (⟨hA3, (hB3.1.cell (p := ⟨w.heap.size, 2, none⟩) (by simp; omega)).trans hHeld.2⟩ : (fun w' : World => AskAt w' b P Q G H ∧ w'.cell? ⟨w.heap.size, 2, none⟩ = some (.int .i64 G)) w3)
  refine hK.out _ _ (fun _ _ => hHeld) ?_
  clear hK K
  try simp only [Act.put, List.getElem_toArray, List.getElem_cons_succ, List.getElem_cons_zero, List.setIfInBounds_toArray, List.set_cons_zero, List.set_cons_succ]
  try dsimp only at hHeld
  refine WD_step (i := 13) (o := _) rfl (by kernel_rfl) (fun K hK => ?_)
  go_simp
  go_at_call 51
  refine (asked_shared P Q G H s t b b _ hHeld.1 (Nat.le_refl _) H3.out).mono ?_
  rintro e w4 ⟨rfl, hA4, hB4⟩
  replace hK1 := hK1.trans hB4.1
  go_wp2_with fail
  replace hHeld := (⟨hA4, (hB4.1.cell (p := ⟨w.heap.size, 2, none⟩) (by simp; omega)).trans hHeld.2⟩ : (fun w' : World => AskAt w' b P Q G H ∧ w'.cell? ⟨w.heap.size, 2, none⟩ = some (.int .i64 G)) w4)
  refine hK.out _ _ (fun _ _ => hHeld) ?_
  clear hK K
  try simp only [Act.put, List.getElem_toArray, List.getElem_cons_succ, List.getElem_cons_zero, List.setIfInBounds_toArray, List.set_cons_zero, List.set_cons_succ]
  try dsimp only at hHeld
  refine WD_step (i := 17) (o := _) rfl (by kernel_rfl) (fun K hK => ?_)
  go_simp
  go_at_call 51
  refine (asked_shared P Q G H k t b b _ hHeld.1 (Nat.le_refl _) H4.out).mono ?_
  rintro e w5 ⟨rfl, hA5, hB5⟩
  replace hK1 := hK1.trans hB5.1
  go_wp2_with fail
  replace hHeld := (⟨hA5, (hB5.1.cell (p := ⟨w.heap.size, 2, none⟩) (by simp; omega)).trans hHeld.2⟩ : (fun w' : World => AskAt w' b P Q G H ∧ w'.cell? ⟨w.heap.size, 2, none⟩ = some (.int .i64 G)) w5)
  refine hK.out _ _ (fun _ _ => hHeld) ?_
  clear hK K
  try simp only [Act.put, List.getElem_toArray, List.getElem_cons_succ, List.getElem_cons_zero, List.setIfInBounds_toArray, List.set_cons_zero, List.set_cons_succ]
  try dsimp only at hHeld
  refine WD_free (i := 18) (oi := _) (v := ?_) rfl (by kernel_rfl) (fun _ _ _ h => h) (Or.inl ⟨by rfl, ?_⟩) ?_
  rotate_left
  · (intro W hS; (try dsimp only at hS); clear hS; go_simp; with_reducible rfl)
  try simp only [Act.put, List.getElem_toArray, List.getElem_cons_succ, List.getElem_cons_zero, List.setIfInBounds_toArray, List.set_cons_zero, List.set_cons_succ]
  refine WD_free (i := 19) (oi := _) (v := ?_) rfl (by kernel_rfl) (fun _ _ _ h => h) (Or.inl ⟨by rfl, ?_⟩) ?_
  rotate_left
  · (intro W hS; (try dsimp only at hS); clear hS; go_simp; with_reducible rfl)
  try simp only [Act.put, List.getElem_toArray, List.getElem_cons_succ, List.getElem_cons_zero, List.setIfInBounds_toArray, List.set_cons_zero, List.set_cons_succ]
  refine WD_free (i := 20) (oi := _) (v := ?_) rfl (by kernel_rfl) (fun _ _ _ h => h) (Or.inl ⟨by rfl, ?_⟩) ?_
  rotate_left
  · (intro W hS; (try dsimp only at hS); clear hS; go_simp; with_reducible rfl)
  try simp only [Act.put, List.getElem_toArray, List.getElem_cons_succ, List.getElem_cons_zero, List.setIfInBounds_toArray, List.set_cons_zero, List.set_cons_succ]
  refine WD_free (i := 21) (oi := _) (v := ?_) rfl (by kernel_rfl) (fun _ _ _ h => h) (Or.inl ⟨by rfl, ?_⟩) ?_
  rotate_left
  · (intro W hS; (try dsimp only at hS); clear hS; go_simp; with_reducible rfl)
  try simp only [Act.put, List.getElem_toArray, List.getElem_cons_succ, List.getElem_cons_zero, List.setIfInBounds_toArray, List.set_cons_zero, List.set_cons_succ]
  refine WD_done (by kernel_rfl) ?_ _
  have c4 := hHeld.1.c4
  have R0 := (hK1.cell (p := ⟨w.heap.size + 1, 0, none⟩) (by simp; omega)).trans r0
  have R1 := (hK1.cell (p := ⟨w.heap.size + 1, 1, none⟩) (by simp; omega)).trans r1
  have R2 := (hK1.cell (p := ⟨w.heap.size + 1, 2, none⟩) (by simp; omega)).trans r2
  have T0 := (hK1.frozen (p := ⟨w.heap.size + 1, 0, none⟩) (by simp; omega)).trans s0
  have T1 := (hK1.frozen (p := ⟨w.heap.size + 1, 1, none⟩) (by simp; omega)).trans s1
  have T2 := (hK1.frozen (p := ⟨w.heap.size + 1, 2, none⟩) (by simp; omega)).trans s2
  have hbt : Below w.heap.size w w5 := hbw.trans (hK1.mono (by omega))
  have z5 : b < w5.heap.size := hHeld.1.lt
  have q1 := pw_nonneg G k (show 1 ≤ P by omega)
  have q2 := pw_lt G k (show 1 ≤ P by omega)
  have q3 := pw_nonneg G s (show 1 ≤ P by omega)
  have q4 := pw_lt G s (show 1 ≤ P by omega)
  have q5 := pw_nonneg t s (show 1 ≤ P by omega)
  have q6 := pw_lt t s (show 1 ≤ P by omega)
  have q7 := pw_nonneg t k (show 1 ≤ P by omega)
  have q8 := pw_lt t k (show 1 ≤ P by omega)
  obtain ⟨E, hE⟩ : ∃ E, pw G k P = E := ⟨_, rfl⟩
  obtain ⟨S, hS⟩ : ∃ E, pw G s P = E := ⟨_, rfl⟩
  obtain ⟨X, hX⟩ : ∃ E, pw t s P = E := ⟨_, rfl⟩
  obtain ⟨Y, hY⟩ : ∃ E, pw t k P = E := ⟨_, rfl⟩
  rw [hE] at q1 q2 ⊢
  rw [hS] at q3 q4 ⊢
  rw [hX] at q5 q6 ⊢
  rw [hY] at q7 q8 ⊢
  have HE := Lib.hid hE
  have HS := Lib.hid hS
  have HX := Lib.hid hX
  have HY := Lib.hid hY
  clear hE hS hX hY hHeld S1 g2 r0 r1 r2 s0 s1 s2 hbw
  go_wp2_with fail
  refine (shake_five t E S X Y _ ht (by omega) (by omega) (by omega) (by omega) w5.heap.size (fun j v hv => ?_) (by simp)).mono ?_
  · rcases j with _ | _ | _ | _ | _ | j <;> simp at hv <;> subst hv <;> simp [go_sem]
  rintro e w6 ⟨a6, c6, rfl, hb6, hr6⟩
  have hb6' := below_two ((Below.refl w5.heap.size w5).alloc (Nat.le_refl _) _) hb6
  replace R0 := kept hb6' R0 (by omega)
  replace R1 := kept hb6' R1 (by omega)
  replace R2 := kept hb6' R2 (by omega)
  replace T0 := (hb6'.frozen (p := ⟨w.heap.size + 1, 0, none⟩) (by simp; omega)).trans T0
  replace T1 := (hb6'.frozen (p := ⟨w.heap.size + 1, 1, none⟩) (by simp; omega)).trans T1
  replace T2 := (hb6'.frozen (p := ⟨w.heap.size + 1, 2, none⟩) (by simp; omega)).trans T2
  replace hbt := below_two hbt hb6'
  have z6 := hb6'.size
  have HSm := shake_sums a6 c6 (shkN t E S X Y) w6 hr6 (by rw [shkN_len]; omega) (by rw [shkN_len]; omega) (txtN_lt _)
  rw [shkN_len] at HSm
  have HSm := Lib.hid HSm
  obtain ⟨K1, hK1'⟩ : ∃ K, sumN (1 :: shkN t E S X Y) = K := ⟨_, rfl⟩
  obtain ⟨K2, hK2'⟩ : ∃ K, sumN (2 :: shkN t E S X Y) = K := ⟨_, rfl⟩
  rw [hK1', hK2'] at HSm
  have HK1 := Lib.hid hK1'
  have HK2 := Lib.hid hK2'
  clear hK1' hK2' hb6 hr6 hb6'
  go_wp2_with fail
  refine HSm.out.mono ?_
  rintro e w7 ⟨rfl, hb7⟩
  have z7 := hb7.size
  replace R0 := kept hb7 R0 (by omega)
  replace R1 := kept hb7 R1 (by omega)
  replace R2 := kept hb7 R2 (by omega)
  replace T0 := (hb7.frozen (p := ⟨w.heap.size + 1, 0, none⟩) (by simp; omega)).trans T0
  replace T1 := (hb7.frozen (p := ⟨w.heap.size + 1, 1, none⟩) (by simp; omega)).trans T1
  replace T2 := (hb7.frozen (p := ⟨w.heap.size + 1, 2, none⟩) (by simp; omega)).trans T2
  replace hbt := below_two hbt hb7
  go_wp2
  refine bodyPost_ret (v := .tuple #[.agg #[.int .i64 E, .int .i64 K2, .int .i64 K1], .int .i64 0]) ?_ rfl ?_
  · simp [results, Try.f33, go_sem, R0, R1, R2]
  · obtain rfl := HK1.out
    obtain rfl := HK2.out
    obtain rfl := HE.out
    obtain rfl := HS.out
    obtain rfl := HX.out
    obtain rfl := HY.out
    exact ⟨rfl, ((hbt.setCell (by simp) _).setCell (by simp) _).setCell (by simp) _⟩
set_option maxRecDepth 100000 in
set_option maxHeartbeats 6400000 in
theorem shake_Finish (P Q G H k t rE rT rK : Int) (w : World) (p1 : 2 ≤ P) (p2 : P ≤ 1048576) (ht : 0 ≤ t ∧ t ≤ 1048576) (hr : 0 ≤ rE ∧ rE ≤ 1048576) (hs1 : shE P Q G H k G = 0) (hs2 : shE P Q G H k t = 0) (hs3 : shE P Q G H k rE = 0) :
    Calls Try.prog 34 #[.agg #[.int .i64 P, .int .i64 Q, .int .i64 G, .int .i64 H], .int .i64 k, .int .i64 t, .agg #[.int .i64 rE, .int .i64 rT, .int .i64 rK]] w fun e w' => ((((sumN (2 :: shkN (pw G k P) rE t (pw t k P) (pw rE k P)) : Nat) : Int) = rT → e = .returned (.tuple #[.int .i64 (sumN (1 :: shkN (pw G k P) rE t (pw t k P) (pw rE k P))), .int .i64 0])) ∧ (¬ ((sumN (2 :: shkN (pw G k P) rE t (pw t k P) (pw rE k P)) : Nat) : Int) = rT → e = .returned (.tuple #[.int .i64 0, .int .i64 8]))) ∧ Below w.heap.size w w' := by
  have H1 := Lib.hid hs1
  have H2 := Lib.hid hs2
  have H3 := Lib.hid hs3
  clear hs1 hs2 hs3
  obtain ⟨Q0, hQ0⟩ : ∃ Q0 : Ending → Prop, Q0 = fun e => ((((sumN (2 :: shkN (pw G k P) rE t (pw t k P) (pw rE k P)) : Nat) : Int) = rT → e = .returned (.tuple #[.int .i64 (sumN (1 :: shkN (pw G k P) rE t (pw t k P) (pw rE k P))), .int .i64 0])) ∧ (¬ ((sumN (2 :: shkN (pw G k P) rE t (pw t k P) (pw rE k P)) : Nat) : Int) = rT → e = .returned (.tuple #[.int .i64 0, .int .i64 8]))) := ⟨_, rfl⟩
  suffices h : Calls Try.prog 34 #[.agg #[.int .i64 P, .int .i64 Q, .int .i64 G, .int .i64 H], .int .i64 k, .int .i64 t, .agg #[.int .i64 rE, .int .i64 rT, .int .i64 rK]] w fun e w' => Q0 e ∧ Below w.heap.size w w' by
    refine h.mono fun e w' hh => ?_
    rw [hQ0] at hh
    exact hh
  have HQ0 := Lib.hid hQ0
  clear hQ0
  go_enter Try.func34, Try.ntmps34
  go_wp2_with fail
  obtain ⟨W0, hW0⟩ : ∃ W, W = ((w.alloc (.cells #[.int .i64 P, .int .i64 Q, .int .i64 G, .int .i64 H] 23)).alloc (.cells #[.int .i64 rE, .int .i64 rT, .int .i64 rK] 58)).alloc (.cells #[.int .i64 P, .int .i64 Q, .int .i64 G, .int .i64 H, .int .i64 0] 80) := ⟨_, rfl⟩
  obtain ⟨b, hb⟩ : ∃ b, b = w.heap.size + 1 + 1 := ⟨_, rfl⟩
  have hA0 : AskAt W0 b P Q G H := by
    rw [hW0, hb]; exact ⟨by simp, by simp [go_sem], by simp [go_sem], by simp [go_sem], by simp [go_sem], by simp [go_sem], by simp [go_sem]⟩
  have g2 : W0.cell? ⟨w.heap.size, 2, none⟩ = some (.int .i64 G) := by rw [hW0]; simp [go_sem]
  have r0 : W0.cell? ⟨w.heap.size + 1, 0, none⟩ = some (.int .i64 rE) := by rw [hW0]; simp [go_sem]
  have r1 : W0.cell? ⟨w.heap.size + 1, 1, none⟩ = some (.int .i64 rT) := by rw [hW0]; simp [go_sem]
  have hbw : Below w.heap.size w W0 := by rw [hW0]; exact (((Below.refl _ _).alloc (Nat.le_refl _) _).alloc (by simp) _).alloc (by simp <;> omega) _
  have hbe : w.heap.size + 1 < b := by omega
  rw [← hW0, ← hb]
  clear hW0 hb
  have S1 : (AskAt W0.drew b P Q G H ∧ W0.drew.cell? ⟨w.heap.size, 2, none⟩ = some (.int .i64 G) ∧ W0.drew.cell? ⟨w.heap.size + 1, 0, none⟩ = some (.int .i64 rE)) := ⟨hA0.drew, g2, r0⟩
  have hK1 : Below b W0 W0.drew := (Below.refl _ _).drew
  clear hA0
  refine wp_region_D (S := (fun w' : World => AskAt w' b P Q G H ∧ w'.cell? ⟨w.heap.size, 2, none⟩ = some (.int .i64 G) ∧ w'.cell? ⟨w.heap.size + 1, 0, none⟩ = some (.int .i64 rE))) (fun _ => true) (by kernel_rfl) S1 (fun hHeld => ?_)
  simp only [List.size_toArray, List.length_cons, List.length_nil, Nat.reduceAdd, Array.replicate_succ, Array.replicate_zero, List.push_toArray, List.append_toArray, List.nil_append, List.cons_append]
  refine WD_free (i := 0) (oi := _) (v := ?_) rfl (by kernel_rfl) (fun _ _ _ h => h) (Or.inl ⟨by rfl, ?_⟩) ?_
  rotate_left
  · (intro W hS; (try dsimp only at hS); clear hS; go_simp; with_reducible rfl)
  try simp only [Act.put, List.getElem_toArray, List.getElem_cons_succ, List.getElem_cons_zero, List.setIfInBounds_toArray, List.set_cons_zero, List.set_cons_succ]
  refine WD_free (i := 1) (oi := _) (v := ?_) rfl (by kernel_rfl) (fun _ _ _ h => h) (Or.inl ⟨by rfl, ?_⟩) ?_
  rotate_left
  · (intro W hS; (try dsimp only at hS); clear hS; go_simp; with_reducible rfl)
  try simp only [Act.put, List.getElem_toArray, List.getElem_cons_succ, List.getElem_cons_zero, List.setIfInBounds_toArray, List.set_cons_zero, List.set_cons_succ]
  refine WD_free (i := 2) (oi := _) (v := ?_) rfl (by kernel_rfl) (fun _ _ _ h => h) (Or.inl ⟨by rfl, ?_⟩) ?_
  rotate_left
  · (intro W hS; (try dsimp only at hS); clear hS; go_simp; with_reducible rfl)
  try simp only [Act.put, List.getElem_toArray, List.getElem_cons_succ, List.getElem_cons_zero, List.setIfInBounds_toArray, List.set_cons_zero, List.set_cons_succ]
  refine WD_take (i := 3) (oi := _) (v := ?_) rfl (by kernel_rfl) (fun _ _ _ h => h) (Or.inl ⟨by rfl, ?_⟩) (by assumption) ?_
  rotate_left
  · (intro W hS; (try dsimp only at hS); have hSw := hS.2.1; clear hS; go_simp; with_reducible rfl)
  try simp only [Act.put, List.getElem_toArray, List.getElem_cons_succ, List.getElem_cons_zero, List.setIfInBounds_toArray, List.set_cons_zero, List.set_cons_succ]
  refine WD_free (i := 5) (oi := _) (v := ?_) rfl (by kernel_rfl) (fun _ _ _ h => h) (Or.inl ⟨by rfl, ?_⟩) ?_
  rotate_left
  · (intro W hS; (try dsimp only at hS); clear hS; go_simp; with_reducible rfl)
  try simp only [Act.put, List.getElem_toArray, List.getElem_cons_succ, List.getElem_cons_zero, List.setIfInBounds_toArray, List.set_cons_zero, List.set_cons_succ]
  refine WD_free (i := 6) (oi := _) (v := ?_) rfl (by kernel_rfl) (fun _ _ _ h => h) (Or.inl ⟨by rfl, ?_⟩) ?_
  rotate_left
  · (intro W hS; (try dsimp only at hS); clear hS; go_simp; with_reducible rfl)
  try simp only [Act.put, List.getElem_toArray, List.getElem_cons_succ, List.getElem_cons_zero, List.setIfInBounds_toArray, List.set_cons_zero, List.set_cons_succ]
  refine WD_free (i := 7) (oi := _) (v := ?_) rfl (by kernel_rfl) (fun _ _ _ h => h) (Or.inl ⟨by rfl, ?_⟩) ?_
  rotate_left
  · (intro W hS; (try dsimp only at hS); clear hS; go_simp; with_reducible rfl)
  try simp only [Act.put, List.getElem_toArray, List.getElem_cons_succ, List.getElem_cons_zero, List.setIfInBounds_toArray, List.set_cons_zero, List.set_cons_succ]
  refine WD_free (i := 9) (oi := _) (v := ?_) rfl (by kernel_rfl) (fun _ _ _ h => h) (Or.inl ⟨by rfl, ?_⟩) ?_
  rotate_left
  · (intro W hS; (try dsimp only at hS); clear hS; go_simp; with_reducible rfl)
  try simp only [Act.put, List.getElem_toArray, List.getElem_cons_succ, List.getElem_cons_zero, List.setIfInBounds_toArray, List.set_cons_zero, List.set_cons_succ]
  refine WD_free (i := 10) (oi := _) (v := ?_) rfl (by kernel_rfl) (fun _ _ _ h => h) (Or.inl ⟨by rfl, ?_⟩) ?_
  rotate_left
  · (intro W hS; (try dsimp only at hS); clear hS; go_simp; with_reducible rfl)
  try simp only [Act.put, List.getElem_toArray, List.getElem_cons_succ, List.getElem_cons_zero, List.setIfInBounds_toArray, List.set_cons_zero, List.set_cons_succ]
  refine WD_free (i := 11) (oi := _) (v := ?_) rfl (by kernel_rfl) (fun _ _ _ h => h) (Or.inl ⟨by rfl, ?_⟩) ?_
  rotate_left
  · (intro W hS; (try dsimp only at hS); clear hS; go_simp; with_reducible rfl)
  try simp only [Act.put, List.getElem_toArray, List.getElem_cons_succ, List.getElem_cons_zero, List.setIfInBounds_toArray, List.set_cons_zero, List.set_cons_succ]
  refine WD_take (i := 12) (oi := _) (v := ?_) rfl (by kernel_rfl) (fun _ _ _ h => h) (Or.inl ⟨by rfl, ?_⟩) (by assumption) ?_
  rotate_left
  · (intro W hS; (try dsimp only at hS); have hSw := hS.2.2; clear hS; go_simp; with_reducible rfl)
  try simp only [Act.put, List.getElem_toArray, List.getElem_cons_succ, List.getElem_cons_zero, List.setIfInBounds_toArray, List.set_cons_zero, List.set_cons_succ]
  refine WD_step (i := 4) (o := _) rfl (by kernel_rfl) (fun K hK => ?_)
  go_simp
  go_at_call 51
  refine (asked_shared P Q G H k G b b _ hHeld.1 (Nat.le_refl _) H1.out).mono ?_
  rintro e w2 ⟨rfl, hA2, hB2⟩
  replace hK1 := hK1.trans hB2.1
  go_wp2_with fail
  replace hHeld := (⟨hA2, (hB2.1.cell (p := ⟨w.heap.size, 2, none⟩) (by simp; omega)).trans hHeld.2.1, (hB2.1.cell (p := ⟨w.heap.size + 1, 0, none⟩) (by simp; omega)).trans hHeld.2.2⟩ : (fun w' : World => AskAt w' b P Q G H ∧ w'.cell? ⟨w.heap.size, 2, none⟩ = some (.int .i64 G) ∧ w'.cell? ⟨w.heap.size + 1, 0, none⟩ = some (.int .i64 rE)) w2)
  refine hK.out _ _ (fun _ _ => hHeld) ?_
  clear hK K
  try simp only [Act.put, List.getElem_toArray, List.getElem_cons_succ, List.getElem_cons_zero, List.setIfInBounds_toArray, List.set_cons_zero, List.set_cons_succ]
  try dsimp only at hHeld
  refine WD_step (i := 8) (o := _) rfl (by kernel_rfl) (fun K hK => ?_)
  go_simp
  go_at_call 51
  refine (asked_shared P Q G H k t b b _ hHeld.1 (Nat.le_refl _) H2.out).mono ?_
  rintro e w3 ⟨rfl, hA3, hB3⟩
  replace hK1 := hK1.trans hB3.1
  go_wp2_with fail
  replace hHeld := (⟨hA3, (hB3.1.cell (p := ⟨w.heap.size, 2, none⟩) (by simp; omega)).trans hHeld.2.1, (hB3.1.cell (p := ⟨w.heap.size + 1, 0, none⟩) (by simp; omega)).trans hHeld.2.2⟩ : (fun w' : World => AskAt w' b P Q G H ∧ w'.cell? ⟨w.heap.size, 2, none⟩ = some (.int .i64 G) ∧ w'.cell? ⟨w.heap.size + 1, 0, none⟩ = some (.int .i64 rE)) w3)
  refine hK.out _ _ (fun _ _ => hHeld) ?_
  clear hK K
  try simp only [Act.put, List.getElem_toArray, List.getElem_cons_succ, List.getElem_cons_zero, List.setIfInBounds_toArray, List.set_cons_zero, List.set_cons_succ]
  try dsimp only at hHeld
  refine WD_step (i := 13) (o := _) rfl (by kernel_rfl) (fun K hK => ?_)
  go_simp
  go_at_call 51
  refine (asked_shared P Q G H k rE b b _ hHeld.1 (Nat.le_refl _) H3.out).mono ?_
  rintro e w4 ⟨rfl, hA4, hB4⟩
  replace hK1 := hK1.trans hB4.1
  go_wp2_with fail
  replace hHeld := (⟨hA4, (hB4.1.cell (p := ⟨w.heap.size, 2, none⟩) (by simp; omega)).trans hHeld.2.1, (hB4.1.cell (p := ⟨w.heap.size + 1, 0, none⟩) (by simp; omega)).trans hHeld.2.2⟩ : (fun w' : World => AskAt w' b P Q G H ∧ w'.cell? ⟨w.heap.size, 2, none⟩ = some (.int .i64 G) ∧ w'.cell? ⟨w.heap.size + 1, 0, none⟩ = some (.int .i64 rE)) w4)
  refine hK.out _ _ (fun _ _ => hHeld) ?_
  clear hK K
  try simp only [Act.put, List.getElem_toArray, List.getElem_cons_succ, List.getElem_cons_zero, List.setIfInBounds_toArray, List.set_cons_zero, List.set_cons_succ]
  try dsimp only at hHeld
  refine WD_free (i := 14) (oi := _) (v := ?_) rfl (by kernel_rfl) (fun _ _ _ h => h) (Or.inl ⟨by rfl, ?_⟩) ?_
  rotate_left
  · (intro W hS; (try dsimp only at hS); clear hS; go_simp; with_reducible rfl)
  try simp only [Act.put, List.getElem_toArray, List.getElem_cons_succ, List.getElem_cons_zero, List.setIfInBounds_toArray, List.set_cons_zero, List.set_cons_succ]
  refine WD_free (i := 15) (oi := _) (v := ?_) rfl (by kernel_rfl) (fun _ _ _ h => h) (Or.inl ⟨by rfl, ?_⟩) ?_
  rotate_left
  · (intro W hS; (try dsimp only at hS); clear hS; go_simp; with_reducible rfl)
  try simp only [Act.put, List.getElem_toArray, List.getElem_cons_succ, List.getElem_cons_zero, List.setIfInBounds_toArray, List.set_cons_zero, List.set_cons_succ]
  refine WD_free (i := 16) (oi := _) (v := ?_) rfl (by kernel_rfl) (fun _ _ _ h => h) (Or.inl ⟨by rfl, ?_⟩) ?_
  rotate_left
  · (intro W hS; (try dsimp only at hS); clear hS; go_simp; with_reducible rfl)
  try simp only [Act.put, List.getElem_toArray, List.getElem_cons_succ, List.getElem_cons_zero, List.setIfInBounds_toArray, List.set_cons_zero, List.set_cons_succ]
  refine WD_done (by kernel_rfl) ?_ _
  have c4 := hHeld.1.c4
  have R0 := (hK1.cell (p := ⟨w.heap.size + 1, 0, none⟩) (by simp; omega)).trans r0
  have R1 := (hK1.cell (p := ⟨w.heap.size + 1, 1, none⟩) (by simp; omega)).trans r1
  have hbt : Below w.heap.size w w4 := hbw.trans (hK1.mono (by omega))
  have z4 : b < w4.heap.size := hHeld.1.lt
  have q1 := pw_nonneg G k (show 1 ≤ P by omega)
  have q2 := pw_lt G k (show 1 ≤ P by omega)
  have q5 := pw_nonneg t k (show 1 ≤ P by omega)
  have q6 := pw_lt t k (show 1 ≤ P by omega)
  have q7 := pw_nonneg rE k (show 1 ≤ P by omega)
  have q8 := pw_lt rE k (show 1 ≤ P by omega)
  obtain ⟨E, hE⟩ : ∃ E, pw G k P = E := ⟨_, rfl⟩
  obtain ⟨X, hX⟩ : ∃ E, pw t k P = E := ⟨_, rfl⟩
  obtain ⟨Y, hY⟩ : ∃ E, pw rE k P = E := ⟨_, rfl⟩
  rw [hE] at q1 q2 ⊢
  rw [hX] at q5 q6 ⊢
  rw [hY] at q7 q8 ⊢
  have HE := Lib.hid hE
  have HX := Lib.hid hX
  have HY := Lib.hid hY
  clear hE hX hY hHeld S1 g2 r0 r1 hbw
  go_wp2_with fail
  refine (shake_five E rE t X Y _ (by omega) hr ht (by omega) (by omega) w4.heap.size (fun j v hv => ?_) (by simp)).mono ?_
  · rcases j with _ | _ | _ | _ | _ | j <;> simp at hv <;> subst hv <;> simp [go_sem]
  rintro e w6 ⟨a6, c6, rfl, hb6, hr6⟩
  have hb6' := below_two ((Below.refl w4.heap.size w4).alloc (Nat.le_refl _) _) hb6
  replace R1 := kept hb6' R1 (by omega)
  replace hbt := below_two hbt hb6'
  have z6 := hb6'.size
  have HSm := shake_sums a6 c6 (shkN E rE t X Y) w6 hr6 (by rw [shkN_len]; omega) (by rw [shkN_len]; omega) (txtN_lt _)
  rw [shkN_len] at HSm
  have HSm := Lib.hid HSm
  obtain ⟨K1, hK1'⟩ : ∃ K, sumN (1 :: shkN E rE t X Y) = K := ⟨_, rfl⟩
  obtain ⟨K2, hK2'⟩ : ∃ K, sumN (2 :: shkN E rE t X Y) = K := ⟨_, rfl⟩
  rw [hK1', hK2'] at HSm
  have HK1 := Lib.hid hK1'
  have HK2 := Lib.hid hK2'
  clear hK1' hK2' hb6 hr6 hb6'
  go_wp2_with fail
  refine HSm.out.mono ?_
  rintro e w7 ⟨rfl, hb7⟩
  have z7 := hb7.size
  replace R1 := kept hb7 R1 (by omega)
  replace hbt := below_two hbt hb7
  by_cases hT : (K2 : Int) = rT
  · have t1 : ((K2 : Int) != rT) = false := by simpa using hT
    have HT := Lib.hid hT
    clear hT
    go_wp2
    go_ret2
    refine ⟨?_, hbt⟩
    obtain rfl := HK1.out
    obtain rfl := HK2.out
    obtain rfl := HE.out
    obtain rfl := HX.out
    obtain rfl := HY.out
    rw [HQ0.out]
    exact ⟨fun _ => rfl, fun h => absurd HT.out h⟩
  · have t1 : ((K2 : Int) != rT) = true := by simpa using hT
    have HT := Lib.hid hT
    clear hT
    go_wp2
    go_ret2
    refine ⟨?_, hbt⟩
    obtain rfl := HK1.out
    obtain rfl := HK2.out
    obtain rfl := HE.out
    obtain rfl := HX.out
    obtain rfl := HY.out
    rw [HQ0.out]
    exact ⟨fun h => absurd h HT.out, fun _ => rfl⟩
end Go.Proofs.Ytgmkmlfppblpfaa
