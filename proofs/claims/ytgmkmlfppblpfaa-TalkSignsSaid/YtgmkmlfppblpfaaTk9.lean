/- Contracts of package talk: long, Sign, Verify. -/
import Derived.Test.YtgmkmlfppblpfaaTk8
namespace Go.Proofs.Ytgmkmlfppblpfaa
open Go.RowKit
set_option linter.unusedVariables false
set_option linter.unusedSimpArgs false
theorem talk_asks (P Q G H : Int) (F Y : Nat) (a : Option Addr) (c : Nat) (xs : List Nat) (w : World) (q1 : 2 ≤ Q) (q2 : Q ≤ 1048576) (hF : F ≤ 1048576) (hY : Y ≤ 1048576) (h : RowB w a c xs) (hl : xs.length ≤ 8192) (hx : ∀ x ∈ xs, x < 256) :
    Calls Try.prog 48 #[.agg #[.int .i64 P, .int .i64 Q, .int .i64 G, .int .i64 H], .int .i64 Y, .int .i64 F, .slice a xs.length c] w fun e w' => e = .returned (.int .i64 ((askN F Y xs : Nat) % Q)) ∧ Below w.heap.size w w' := by
  rcases a with _ | ad
  · obtain ⟨rfl, rfl⟩ := h.1 rfl
    exact talk_asks_none P Q G H F Y w q1 q2 hF hY
  · exact talk_asks_some P Q G H F Y ad c xs w q1 q2 hF hY h hl hx
theorem talk_long (a : Option Addr) (L c : Nat) (w : World) (hl : L ≤ maxLen) :
    Calls Try.prog 47 #[.slice a L c] w fun e w' => e = .returned (.bool (decide (4088 < L))) ∧ w = w' := by
  unfold maxLen at hl
  go_enter Try.func47, Try.ntmps47
  go_wp2
  go_ret
  exact ⟨ret_bool (by simp; omega), rfl⟩
set_option maxRecDepth 100000 in
set_option maxHeartbeats 6400000 in
theorem talk_Sign (P Q G H s k : Int) (a : Option Addr) (c : Nat) (xs : List Nat) (w : World) (hg : grpE P Q G H = 0) (hp : powsB Q [s, k] = true) (h : RowB w a c xs) (hl : xs.length ≤ 4088) (hx : ∀ x ∈ xs, x < 256) (Y F : Nat) (hY : pw G s P = Y) (hF : pw G k P = F) :
    Calls Try.prog 29 #[.agg #[.int .i64 P, .int .i64 Q, .int .i64 G, .int .i64 H], .int .i64 s, .int .i64 k, .slice a xs.length c] w fun e w' => e = .returned (.tuple #[.agg #[.int .i64 F, .int .i64 ((askN F Y xs : Nat) % Q), .int .i64 ((k + (askN F Y xs : Nat) % Q * s) % Q)], .int .i64 0]) ∧ Below w.heap.size w w' := by
  have HG := Lib.hid hg
  have HP := Lib.hid hp
  have hsk : (0 ≤ s ∧ s < Q) ∧ (0 ≤ k ∧ k < Q) := by simpa [powsB] using hp
  obtain ⟨hs, hk⟩ := hsk
  have ⟨⟨g1, g2, g3, g4, g5, _⟩, _⟩ := grpE_zero hg
  have yl := pw_lt G s (show 1 ≤ P by omega)
  have fl := pw_lt G k (show 1 ≤ P by omega)
  rw [hY] at yl
  rw [hF] at fl
  have HA := Lib.hid fun W (hb : Below w.heap.size w W) => talk_asks P Q G H F Y a c xs W (by omega) (by omega) (by omega) (by omega) (h.below hb (Nat.le_refl _)) (by omega) hx
  obtain ⟨A, hA⟩ : ∃ A : Int, (askN F Y xs : Nat) % Q = A := ⟨_, rfl⟩
  have a1 : 0 ≤ A := by rw [← hA]; exact Int.emod_nonneg _ (by omega)
  have a2 : A < Q := by rw [← hA]; exact Int.emod_lt_of_pos _ (by omega)
  rw [hA] at HA ⊢
  have HS := Lib.hid (fun w => talk_speak P Q G H s k A w (by omega) g2 g3 (by omega) hs hk ⟨a1, a2⟩)
  rw [hF] at HS
  have P1 := Lib.hid fun w => power_Of' G s P w hs.1 (by omega) (by omega) g2
  have P2 := Lib.hid fun w => power_Of' G k P w hk.1 (by omega) (by omega) g2
  rw [hY] at P1
  rw [hF] at P2
  obtain ⟨L, hL⟩ : ∃ L, xs.length = L := ⟨_, rfl⟩
  rw [hL] at HA hl ⊢
  have HLg := Lib.hid fun w => talk_long a L c w (by unfold maxLen; omega)
  rw [decide_eq_false (by omega)] at HLg
  clear hg hp hs hk hA hL h hx hY hF
  go_enter Try.func29, Try.ntmps29
  go_wp2_with fail
  refine (talk_powers P Q G H _ 2 [s, k] _ ?r1 (by simp) HG.out HP.out).mono ?_
  case r1 => exact RowI.two (by simp [go_sem]) (by simp [go_sem]) (by simp [go_sem] <;> omega)
  rintro e w1 ⟨rfl, hb1⟩
  have z1 := hb1.size
  simp at z1
  have k0 := kept hb1 (b := w.heap.size) (o := 0) (v := .int .i64 P) (by simp [go_sem]) (by simp [go_sem] <;> omega)
  have k1 := kept hb1 (b := w.heap.size) (o := 1) (v := .int .i64 Q) (by simp [go_sem]) (by simp [go_sem] <;> omega)
  have k2 := kept hb1 (b := w.heap.size) (o := 2) (v := .int .i64 G) (by simp [go_sem]) (by simp [go_sem] <;> omega)
  have k3 := kept hb1 (b := w.heap.size) (o := 3) (v := .int .i64 H) (by simp [go_sem]) (by simp [go_sem] <;> omega)
  have r0 := kept hb1 (b := w.heap.size + 1) (o := 0) (v := .int .i64 0) (by simp [go_sem]) (by simp [go_sem] <;> omega)
  have s0 := (froz hb1 (b := w.heap.size + 1) (o := 0) (by simp [go_sem] <;> omega)).trans (show _ = false by simp [go_sem])
  have r1 := kept hb1 (b := w.heap.size + 1) (o := 1) (v := .int .i64 0) (by simp [go_sem]) (by simp [go_sem] <;> omega)
  have s1 := (froz hb1 (b := w.heap.size + 1) (o := 1) (by simp [go_sem] <;> omega)).trans (show _ = false by simp [go_sem])
  have r2 := kept hb1 (b := w.heap.size + 1) (o := 2) (v := .int .i64 0) (by simp [go_sem]) (by simp [go_sem] <;> omega)
  have s2 := (froz hb1 (b := w.heap.size + 1) (o := 2) (by simp [go_sem] <;> omega)).trans (show _ = false by simp [go_sem])
  have hbw : Below w.heap.size w w1 := below_two ((((Below.refl _ _).alloc (Nat.le_refl _) _).alloc (by simp <;> omega) _).alloc (by simp <;> omega) _) hb1
  clear hb1
  go_wp2_with fail
  refine (HLg.out _).mono ?_
  rintro e w' ⟨rfl, rfl⟩
  go_wp2_with fail
  refine wp_region_still_tail 12 (by kernel_rfl) (by kernel_rfl) ?_
  simp only [List.take_succ_cons, List.take_zero, List.drop_succ_cons, List.drop_zero]
  iterate 5 still_step
  still_call (still_of (P1.out _))
  iterate 5 still_step
  still_call (still_of (P2.out _))
  refine wpStill_nil ?_
  change wpList _ _ _ _ _ w1.drew
  have hbd : Below w1.heap.size w1 w1.drew := (Below.refl _ _).drew
  replace k0 := kept hbd k0 (by omega)
  replace k1 := kept hbd k1 (by omega)
  replace k2 := kept hbd k2 (by omega)
  replace k3 := kept hbd k3 (by omega)
  replace r0 := kept hbd r0 (by omega)
  replace s0 := frozK hbd (by omega) s0
  replace r1 := kept hbd r1 (by omega)
  replace s1 := frozK hbd (by omega) s1
  replace r2 := kept hbd r2 (by omega)
  replace s2 := frozK hbd (by omega) s2
  have z2 : w.heap.size + 2 < w1.drew.heap.size + 1 := by have := hbd.size; omega
  have hbw2 := below_two hbw hbd
  clear hbw hbd z1
  obtain ⟨w2, hw2⟩ : ∃ w2, w1.drew = w2 := ⟨_, rfl⟩
  rw [hw2] at k0 k1 k2 k3 r0 r1 r2 s0 s1 s2 z2 hbw2 ⊢
  clear hw2 w1
  go_wp2_with fail
  refine wp_region_D (S := (fun W : World => Below w2.heap.size w2 W)) (fun j => j != 9) (by kernel_rfl) (Below.refl _ _).drew (fun hHeld => ?_)
  simp only [List.size_toArray, List.length_cons, List.length_nil, Nat.reduceAdd, Array.replicate_succ, Array.replicate_zero, List.push_toArray, List.append_toArray, List.nil_append, List.cons_append]
  refine WD_take (i := 0) (oi := _) (v := ?_) rfl (by kernel_rfl) (fun _ _ _ h => h) (Or.inl ⟨by rfl, ?_⟩) (by assumption) ?_
  rotate_left
  · (intro W hS; (try dsimp only at hS); have qk0 := (hS.cell (p := ⟨w.heap.size, 0, none⟩) (World.block_lt_of_cell? _ _ k0)).trans k0; have qk1 := (hS.cell (p := ⟨w.heap.size, 1, none⟩) (World.block_lt_of_cell? _ _ k1)).trans k1; have qk2 := (hS.cell (p := ⟨w.heap.size, 2, none⟩) (World.block_lt_of_cell? _ _ k2)).trans k2; have qk3 := (hS.cell (p := ⟨w.heap.size, 3, none⟩) (World.block_lt_of_cell? _ _ k3)).trans k3; clear hS; go_simp; with_reducible rfl)
  try simp only [Act.put, List.getElem_toArray, List.getElem_cons_succ, List.getElem_cons_zero, List.setIfInBounds_toArray, List.set_cons_zero, List.set_cons_succ]
  refine WD_free (i := 1) (oi := _) (v := ?_) rfl (by kernel_rfl) (fun _ _ _ h => h) (Or.inl ⟨by rfl, ?_⟩) ?_
  rotate_left
  · (intro W hS; (try dsimp only at hS); clear hS; go_simp; with_reducible rfl)
  try simp only [Act.put, List.getElem_toArray, List.getElem_cons_succ, List.getElem_cons_zero, List.setIfInBounds_toArray, List.set_cons_zero, List.set_cons_succ]
  refine WD_free (i := 2) (oi := _) (v := ?_) rfl (by kernel_rfl) (fun _ _ _ h => h) (Or.inl ⟨by rfl, ?_⟩) ?_
  rotate_left
  · (intro W hS; (try dsimp only at hS); clear hS; go_simp; with_reducible rfl)
  try simp only [Act.put, List.getElem_toArray, List.getElem_cons_succ, List.getElem_cons_zero, List.setIfInBounds_toArray, List.set_cons_zero, List.set_cons_succ]
  refine WD_take (i := 3) (oi := _) (v := ?_) rfl (by kernel_rfl) (fun _ _ _ h => h) (Or.inl ⟨by rfl, ?_⟩) (by assumption) ?_
  rotate_left
  · (intro W hS; (try dsimp only at hS); have qk0 := (hS.cell (p := ⟨w.heap.size, 0, none⟩) (World.block_lt_of_cell? _ _ k0)).trans k0; have qk1 := (hS.cell (p := ⟨w.heap.size, 1, none⟩) (World.block_lt_of_cell? _ _ k1)).trans k1; have qk2 := (hS.cell (p := ⟨w.heap.size, 2, none⟩) (World.block_lt_of_cell? _ _ k2)).trans k2; have qk3 := (hS.cell (p := ⟨w.heap.size, 3, none⟩) (World.block_lt_of_cell? _ _ k3)).trans k3; clear hS; go_simp; with_reducible rfl)
  try simp only [Act.put, List.getElem_toArray, List.getElem_cons_succ, List.getElem_cons_zero, List.setIfInBounds_toArray, List.set_cons_zero, List.set_cons_succ]
  refine WD_free (i := 4) (oi := _) (v := ?_) rfl (by kernel_rfl) (fun _ _ _ h => h) (Or.inl ⟨by rfl, ?_⟩) ?_
  rotate_left
  · (intro W hS; (try dsimp only at hS); clear hS; go_simp; with_reducible rfl)
  try simp only [Act.put, List.getElem_toArray, List.getElem_cons_succ, List.getElem_cons_zero, List.setIfInBounds_toArray, List.set_cons_zero, List.set_cons_succ]
  refine WD_free (i := 5) (oi := _) (v := ?_) rfl (by kernel_rfl) (fun _ _ _ h => h) (Or.inl ⟨by rfl, ?_⟩) ?_
  rotate_left
  · (intro W hS; (try dsimp only at hS); clear hS; go_simp; with_reducible rfl)
  try simp only [Act.put, List.getElem_toArray, List.getElem_cons_succ, List.getElem_cons_zero, List.setIfInBounds_toArray, List.set_cons_zero, List.set_cons_succ]
  refine WD_free (i := 6) (oi := _) (v := ?_) rfl (by kernel_rfl) (fun _ _ _ h => h) (Or.inl ⟨by rfl, ?_⟩) ?_
  rotate_left
  · (intro W hS; (try dsimp only at hS); clear hS; go_simp; with_reducible rfl)
  try simp only [Act.put, List.getElem_toArray, List.getElem_cons_succ, List.getElem_cons_zero, List.setIfInBounds_toArray, List.set_cons_zero, List.set_cons_succ]
  refine WD_step (i := 7) (o := _) rfl (by kernel_rfl) (fun K hK => ?_)
  go_simp
  refine (HA.out _ (below_two hbw2 hHeld)).mono ?_
  rintro e w5 ⟨rfl, hb5⟩
  go_wp2_with fail
  replace hHeld := below_two hHeld hb5
  refine hK.out _ _ (fun _ _ => hHeld) ?_
  clear hK K
  try simp only [Act.put, List.getElem_toArray, List.getElem_cons_succ, List.getElem_cons_zero, List.setIfInBounds_toArray, List.set_cons_zero, List.set_cons_succ]
  refine WD_step (i := 8) (o := _) rfl (by kernel_rfl) (fun K hK => ?_)
  go_simp
  refine (HS.out _).mono ?_
  rintro e w6 ⟨rfl, hb6⟩
  go_wp2_with fail
  replace hHeld := below_two hHeld hb6
  refine hK.out _ _ (fun _ _ => hHeld) ?_
  clear hK K
  try simp only [Act.put, List.getElem_toArray, List.getElem_cons_succ, List.getElem_cons_zero, List.setIfInBounds_toArray, List.set_cons_zero, List.set_cons_succ]
  have y0 := kept hHeld r0 (by omega)
  have y1 := kept hHeld r1 (by omega)
  have y2 := kept hHeld r2 (by omega)
  have x0 := frozK hHeld (by omega) s0
  have x1 := frozK hHeld (by omega) s1
  have x2 := frozK hHeld (by omega) s2
  refine WD_step (i := 9) (o := _) rfl (by kernel_rfl) (fun K hK => ?_)
  go_simp
  refine hK.out _ _ (fun h => by cases h) ?_
  clear hK K
  try simp only [Act.put, List.getElem_toArray, List.getElem_cons_succ, List.getElem_cons_zero, List.setIfInBounds_toArray, List.set_cons_zero, List.set_cons_succ]
  refine WD_free (i := 10) (oi := _) (v := ?_) rfl (by kernel_rfl) (fun _ _ _ h => h) (Or.inl ⟨by rfl, ?_⟩) ?_
  rotate_left
  · (intro W hS; (try dsimp only at hS); clear hS; go_simp; with_reducible rfl)
  try simp only [Act.put, List.getElem_toArray, List.getElem_cons_succ, List.getElem_cons_zero, List.setIfInBounds_toArray, List.set_cons_zero, List.set_cons_succ]
  refine WD_done (by kernel_rfl) ?_ _
  go_wp2
  refine bodyPost_ret (v := .tuple #[.agg #[.int .i64 F, .int .i64 A, .int .i64 ((k + A * s) % Q)], .int .i64 0]) ?_ rfl ?_
  · simp [results, Try.f29, go_sem, y0, y1, y2]
  · exact ⟨rfl, (((below_two hbw2 hHeld).setCell (by simp) _).setCell (by simp) _).setCell (by simp) _⟩
set_option maxRecDepth 100000 in
set_option maxHeartbeats 6400000 in
theorem talk_Verify (P Q G H q v : Int) (F Y : Nat) (a : Option Addr) (c : Nat) (xs : List Nat) (w : World) (hg : grpE P Q G H = 0) (hs : saidB P Q Y [((F : Int), q, v)] = true) (hr : rightB P G Y F q v = true) (h : RowB w a c xs) (hl : xs.length ≤ 4088) (hx : ∀ x ∈ xs, x < 256) :
    Calls Try.prog 30 #[.agg #[.int .i64 P, .int .i64 Q, .int .i64 G, .int .i64 H], .int .i64 Y, .slice a xs.length c, .agg #[.int .i64 F, .int .i64 q, .int .i64 v]] w fun e w' => e = .returned (.tuple #[.bool (q == (askN F Y xs : Nat) % Q), .int .i64 0]) ∧ Below w.heap.size w w' := by
  have HG := Lib.hid hg
  have HSd := Lib.hid hs
  have ⟨⟨g1, g2, g3, g4, g5, _⟩, _⟩ := grpE_zero hg
  obtain ⟨⟨hq, hv⟩, hy, hf⟩ := said_one.1 hs
  obtain ⟨f1, f2, _⟩ := memB_iff.1 hf
  obtain ⟨y1, y2, _⟩ := memB_iff.1 hy
  have HR := Lib.hid (fun w => talk_right P Q G H Y F q v w (by omega) g2 ⟨by omega, f2⟩ ⟨hq.1, by omega⟩ ⟨hv.1, by omega⟩)
  rw [hr] at HR
  have HA := Lib.hid fun W (hb : Below w.heap.size w W) => talk_asks P Q G H F Y a c xs W (by omega) (by omega) (by omega) (by omega) (h.below hb (Nat.le_refl _)) (by omega) hx
  obtain ⟨A, hA⟩ : ∃ A : Int, (askN F Y xs : Nat) % Q = A := ⟨_, rfl⟩
  rw [hA] at HA ⊢
  obtain ⟨L, hL⟩ : ∃ L, xs.length = L := ⟨_, rfl⟩
  rw [hL] at HA hl ⊢
  have HLg := Lib.hid fun w => talk_long a L c w (by unfold maxLen; omega)
  rw [decide_eq_false (by omega)] at HLg
  clear hg hs hr hy hf hA hL h hx
  go_enter Try.func30, Try.ntmps30
  go_wp2_with fail
  refine (talk_said P Q G H Y _ 1 [((F : Int), q, v)] _ ?r1 (by simp) HG.out).mono ?_
  case r1 => exact RowT.one (by simp [go_sem]) (by simp [go_sem]) (by simp [go_sem]) (by simp [go_sem] <;> omega)
  rintro e w1 ⟨⟨_, rfl⟩ | ⟨hs, _⟩, hb1⟩
  rotate_left
  · rw [HSd.out] at hs; cases hs
  have z1 := hb1.size
  simp at z1
  have k0 := kept hb1 (b := w.heap.size) (o := 0) (v := .int .i64 P) (by simp [go_sem]) (by simp [go_sem] <;> omega)
  have k1 := kept hb1 (b := w.heap.size) (o := 1) (v := .int .i64 Q) (by simp [go_sem]) (by simp [go_sem] <;> omega)
  have k2 := kept hb1 (b := w.heap.size) (o := 2) (v := .int .i64 G) (by simp [go_sem]) (by simp [go_sem] <;> omega)
  have k3 := kept hb1 (b := w.heap.size) (o := 3) (v := .int .i64 H) (by simp [go_sem]) (by simp [go_sem] <;> omega)
  have c0 := kept hb1 (b := w.heap.size + 1) (o := 0) (v := .int .i64 F) (by simp [go_sem]) (by simp [go_sem] <;> omega)
  have c1 := kept hb1 (b := w.heap.size + 1) (o := 1) (v := .int .i64 q) (by simp [go_sem]) (by simp [go_sem] <;> omega)
  have c2 := kept hb1 (b := w.heap.size + 1) (o := 2) (v := .int .i64 v) (by simp [go_sem]) (by simp [go_sem] <;> omega)
  have hbw : Below w.heap.size w w1 := below_two ((((Below.refl _ _).alloc (Nat.le_refl _) _).alloc (by simp <;> omega) _).alloc (by simp <;> omega) _) hb1
  clear hb1
  go_wp2_with fail
  refine (HLg.out _).mono ?_
  rintro e w' ⟨rfl, rfl⟩
  go_wp2_with fail
  refine wp_region_D (S := (fun W : World => Below w1.heap.size w1 W)) (fun _ => true) (by kernel_rfl) (Below.refl _ _).drew (fun hHeld => ?_)
  simp only [List.size_toArray, List.length_cons, List.length_nil, Nat.reduceAdd, Array.replicate_succ, Array.replicate_zero, List.push_toArray, List.append_toArray, List.nil_append, List.cons_append]
  refine WD_take (i := 0) (oi := _) (v := ?_) rfl (by kernel_rfl) (fun _ _ _ h => h) (Or.inl ⟨by rfl, ?_⟩) (by assumption) ?_
  rotate_left
  · (intro W hS; (try dsimp only at hS); have qk0 := (hS.cell (p := ⟨w.heap.size, 0, none⟩) (World.block_lt_of_cell? _ _ k0)).trans k0; have qk1 := (hS.cell (p := ⟨w.heap.size, 1, none⟩) (World.block_lt_of_cell? _ _ k1)).trans k1; have qk2 := (hS.cell (p := ⟨w.heap.size, 2, none⟩) (World.block_lt_of_cell? _ _ k2)).trans k2; have qk3 := (hS.cell (p := ⟨w.heap.size, 3, none⟩) (World.block_lt_of_cell? _ _ k3)).trans k3; clear hS; go_simp; with_reducible rfl)
  try simp only [Act.put, List.getElem_toArray, List.getElem_cons_succ, List.getElem_cons_zero, List.setIfInBounds_toArray, List.set_cons_zero, List.set_cons_succ]
  refine WD_free (i := 1) (oi := _) (v := ?_) rfl (by kernel_rfl) (fun _ _ _ h => h) (Or.inl ⟨by rfl, ?_⟩) ?_
  rotate_left
  · (intro W hS; (try dsimp only at hS); clear hS; go_simp; with_reducible rfl)
  try simp only [Act.put, List.getElem_toArray, List.getElem_cons_succ, List.getElem_cons_zero, List.setIfInBounds_toArray, List.set_cons_zero, List.set_cons_succ]
  refine WD_take (i := 2) (oi := _) (v := ?_) rfl (by kernel_rfl) (fun _ _ _ h => h) (Or.inl ⟨by rfl, ?_⟩) (by assumption) ?_
  rotate_left
  · (intro W hS; (try dsimp only at hS); have qc0 := (hS.cell (p := ⟨w.heap.size + 1, 0, none⟩) (World.block_lt_of_cell? _ _ c0)).trans c0; have qc1 := (hS.cell (p := ⟨w.heap.size + 1, 1, none⟩) (World.block_lt_of_cell? _ _ c1)).trans c1; have qc2 := (hS.cell (p := ⟨w.heap.size + 1, 2, none⟩) (World.block_lt_of_cell? _ _ c2)).trans c2; clear hS; go_simp; with_reducible rfl)
  try simp only [Act.put, List.getElem_toArray, List.getElem_cons_succ, List.getElem_cons_zero, List.setIfInBounds_toArray, List.set_cons_zero, List.set_cons_succ]
  refine WD_step (i := 3) (o := _) rfl (by kernel_rfl) (fun K hK => ?_)
  go_simp
  refine (HR.out _).mono ?_
  rintro e w5 ⟨rfl, hb5⟩
  go_wp2_with fail
  replace hHeld := below_two hHeld hb5
  refine hK.out _ _ (fun _ _ => hHeld) ?_
  clear hK K
  try simp only [Act.put, List.getElem_toArray, List.getElem_cons_succ, List.getElem_cons_zero, List.setIfInBounds_toArray, List.set_cons_zero, List.set_cons_succ]
  refine WD_free (i := 4) (oi := _) (v := ?_) rfl (by kernel_rfl) (fun _ _ _ h => h) (Or.inl ⟨by rfl, ?_⟩) ?_
  rotate_left
  · (intro W hS; (try dsimp only at hS); clear hS; go_simp; with_reducible rfl)
  try simp only [Act.put, List.getElem_toArray, List.getElem_cons_succ, List.getElem_cons_zero, List.setIfInBounds_toArray, List.set_cons_zero, List.set_cons_succ]
  refine WD_free (i := 5) (oi := _) (v := ?_) rfl (by kernel_rfl) (fun _ _ _ h => h) (Or.inl ⟨by rfl, ?_⟩) ?_
  rotate_left
  · (intro W hS; (try dsimp only at hS); clear hS; go_simp; with_reducible rfl)
  try simp only [Act.put, List.getElem_toArray, List.getElem_cons_succ, List.getElem_cons_zero, List.setIfInBounds_toArray, List.set_cons_zero, List.set_cons_succ]
  refine WD_take (i := 6) (oi := _) (v := ?_) rfl (by kernel_rfl) (fun _ _ _ h => h) (Or.inl ⟨by rfl, ?_⟩) (by assumption) ?_
  rotate_left
  · (intro W hS; (try dsimp only at hS); have qc1 := (hS.cell (p := ⟨w.heap.size + 1, 1, none⟩) (World.block_lt_of_cell? _ _ c1)).trans c1; clear hS; go_simp; with_reducible rfl)
  try simp only [Act.put, List.getElem_toArray, List.getElem_cons_succ, List.getElem_cons_zero, List.setIfInBounds_toArray, List.set_cons_zero, List.set_cons_succ]
  refine WD_take (i := 7) (oi := _) (v := ?_) rfl (by kernel_rfl) (fun _ _ _ h => h) (Or.inl ⟨by rfl, ?_⟩) (by assumption) ?_
  rotate_left
  · (intro W hS; (try dsimp only at hS); have qk0 := (hS.cell (p := ⟨w.heap.size, 0, none⟩) (World.block_lt_of_cell? _ _ k0)).trans k0; have qk1 := (hS.cell (p := ⟨w.heap.size, 1, none⟩) (World.block_lt_of_cell? _ _ k1)).trans k1; have qk2 := (hS.cell (p := ⟨w.heap.size, 2, none⟩) (World.block_lt_of_cell? _ _ k2)).trans k2; have qk3 := (hS.cell (p := ⟨w.heap.size, 3, none⟩) (World.block_lt_of_cell? _ _ k3)).trans k3; clear hS; go_simp; with_reducible rfl)
  try simp only [Act.put, List.getElem_toArray, List.getElem_cons_succ, List.getElem_cons_zero, List.setIfInBounds_toArray, List.set_cons_zero, List.set_cons_succ]
  refine WD_free (i := 8) (oi := _) (v := ?_) rfl (by kernel_rfl) (fun _ _ _ h => h) (Or.inl ⟨by rfl, ?_⟩) ?_
  rotate_left
  · (intro W hS; (try dsimp only at hS); clear hS; go_simp; with_reducible rfl)
  try simp only [Act.put, List.getElem_toArray, List.getElem_cons_succ, List.getElem_cons_zero, List.setIfInBounds_toArray, List.set_cons_zero, List.set_cons_succ]
  refine WD_free (i := 9) (oi := _) (v := ?_) rfl (by kernel_rfl) (fun _ _ _ h => h) (Or.inl ⟨by rfl, ?_⟩) ?_
  rotate_left
  · (intro W hS; (try dsimp only at hS); clear hS; go_simp; with_reducible rfl)
  try simp only [Act.put, List.getElem_toArray, List.getElem_cons_succ, List.getElem_cons_zero, List.setIfInBounds_toArray, List.set_cons_zero, List.set_cons_succ]
  refine WD_take (i := 10) (oi := _) (v := ?_) rfl (by kernel_rfl) (fun _ _ _ h => h) (Or.inl ⟨by rfl, ?_⟩) (by assumption) ?_
  rotate_left
  · (intro W hS; (try dsimp only at hS); have qc0 := (hS.cell (p := ⟨w.heap.size + 1, 0, none⟩) (World.block_lt_of_cell? _ _ c0)).trans c0; clear hS; go_simp; with_reducible rfl)
  try simp only [Act.put, List.getElem_toArray, List.getElem_cons_succ, List.getElem_cons_zero, List.setIfInBounds_toArray, List.set_cons_zero, List.set_cons_succ]
  refine WD_free (i := 11) (oi := _) (v := ?_) rfl (by kernel_rfl) (fun _ _ _ h => h) (Or.inl ⟨by rfl, ?_⟩) ?_
  rotate_left
  · (intro W hS; (try dsimp only at hS); clear hS; go_simp; with_reducible rfl)
  try simp only [Act.put, List.getElem_toArray, List.getElem_cons_succ, List.getElem_cons_zero, List.setIfInBounds_toArray, List.set_cons_zero, List.set_cons_succ]
  refine WD_step (i := 12) (o := _) rfl (by kernel_rfl) (fun K hK => ?_)
  go_simp
  refine (HA.out _ (below_two hbw hHeld)).mono ?_
  rintro e w6 ⟨rfl, hb6⟩
  go_wp2_with fail
  replace hHeld := below_two hHeld hb6
  refine hK.out _ _ (fun _ _ => hHeld) ?_
  clear hK K
  try simp only [Act.put, List.getElem_toArray, List.getElem_cons_succ, List.getElem_cons_zero, List.setIfInBounds_toArray, List.set_cons_zero, List.set_cons_succ]
  refine WD_free (i := 13) (oi := _) (v := ?_) rfl (by kernel_rfl) (fun _ _ _ h => h) (Or.inl ⟨by rfl, ?_⟩) ?_
  rotate_left
  · (intro W hS; (try dsimp only at hS); clear hS; go_simp; with_reducible rfl)
  try simp only [Act.put, List.getElem_toArray, List.getElem_cons_succ, List.getElem_cons_zero, List.setIfInBounds_toArray, List.set_cons_zero, List.set_cons_succ]
  refine WD_free (i := 14) (oi := _) (v := ?_) rfl (by kernel_rfl) (fun _ _ _ h => h) (Or.inl ⟨by rfl, ?_⟩) ?_
  rotate_left
  · (intro W hS; (try dsimp only at hS); clear hS; go_simp; with_reducible rfl)
  try simp only [Act.put, List.getElem_toArray, List.getElem_cons_succ, List.getElem_cons_zero, List.setIfInBounds_toArray, List.set_cons_zero, List.set_cons_succ]
  refine WD_free (i := 15) (oi := _) (v := ?_) rfl (by kernel_rfl) (fun _ _ _ h => h) (Or.inl ⟨by rfl, ?_⟩) ?_
  rotate_left
  · (intro W hS; (try dsimp only at hS); clear hS; go_simp; with_reducible rfl)
  try simp only [Act.put, List.getElem_toArray, List.getElem_cons_succ, List.getElem_cons_zero, List.setIfInBounds_toArray, List.set_cons_zero, List.set_cons_succ]
  refine WD_free (i := 16) (oi := _) (v := ?_) rfl (by kernel_rfl) (fun _ _ _ h => h) (Or.inl ⟨by rfl, ?_⟩) ?_
  rotate_left
  · (intro W hS; (try dsimp only at hS); clear hS; go_simp; with_reducible rfl)
  try simp only [Act.put, List.getElem_toArray, List.getElem_cons_succ, List.getElem_cons_zero, List.setIfInBounds_toArray, List.set_cons_zero, List.set_cons_succ]
  refine WD_done (by kernel_rfl) ?_ _
  go_wp2
  go_ret2
  exact ⟨rfl, below_two hbw hHeld⟩
end Go.Proofs.Ytgmkmlfppblpfaa
