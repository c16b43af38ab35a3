/- Contracts of package group: Lock, Open, Mul. -/
import Derived.Test.YtgmkmlfppblpfaaGrp4
import Derived.Test.YtgmkmlfppblpfaaGrpM
import Derived.StillTailTactics
namespace Go.Proofs.Ytgmkmlfppblpfaa
open Go.RowKit
set_option linter.unusedVariables false
set_option linter.unusedSimpArgs false
theorem wrongE_zero {P Q G H : Int} {zp zm : List Int} : wrongE P Q G H zp zm = 0 ↔ grpE P Q G H = 0 ∧ powsB Q zp = true ∧ memsB P Q zm = true := by
  unfold wrongE
  by_cases g : grpE P Q G H = 0
  · rw [if_pos g]
    by_cases e : powsB Q zp = true
    · rw [if_pos e]
      by_cases f : memsB P Q zm = true
      · simp [g, e, f]
      · simp [f]
    · simp [e]
  · rw [if_neg g]; simp [g]
theorem froz {W W' : World} (hb : Below W.heap.size W W') {b o : Nat} (h : b < W.heap.size) : W'.frozen? ⟨b, o, none⟩ = W.frozen? ⟨b, o, none⟩ := by
  unfold World.frozen?
  have := hb.block b h
  simp [this]
theorem still_of {P : Program} {f : FuncId} {args : Array Value} {w : World} {v : Value} (h : Calls P f args w fun e w' => e = .returned v ∧ w = w') : Calls P f args w fun e w'' => e = .returned v ∧ w'' = w := h.mono fun _ _ ⟨h1, h2⟩ => ⟨h1, h2.symm⟩
set_option maxRecDepth 20000 in
set_option maxHeartbeats 1600000 in
theorem group_Lock (P Q G H y m r : Int) (w : World) (h : wrongE P Q G H [r] [y, m] = 0) :
    Calls Try.prog 18 #[.agg #[.int .i64 P, .int .i64 Q, .int .i64 G, .int .i64 H], .int .i64 y, .int .i64 m, .int .i64 r] w fun e w' => e = .returned (.tuple #[.agg #[.int .i64 (pw G r P), .int .i64 (m * pw y r P % P)], .int .i64 0]) ∧ Below w.heap.size w w' := by
  have HE := Lib.hid h
  obtain ⟨hg, a1, a2⟩ := wrongE_zero.1 h
  have ⟨g1, g2, g3, g4, _⟩ := (grpE_zero hg).1
  obtain ⟨r1, r2⟩ : 0 ≤ r ∧ r < Q := by simpa [powsB] using a1
  have ⟨m1, m2, _⟩ : 1 ≤ m ∧ m < P ∧ True := by
    have : memB P Q y = true ∧ memB P Q m = true := by simpa [memsB] using a2
    have := memB_iff.1 this.2
    exact ⟨this.1, this.2.1, trivial⟩
  clear h hg a1 a2
  have p1 := pw_nonneg y r (show 1 ≤ P by omega)
  have p2 := pw_lt y r (show 1 ≤ P by omega)
  obtain ⟨x, hx⟩ : ∃ x, pw y r P = x := ⟨_, rfl⟩
  rw [hx] at p1 p2 ⊢
  have HX := Lib.hid hx
  clear hx
  have q := mul_lim (show 0 ≤ m by omega) (by omega) p1 (by omega)
  have f1 : IntKind.i64.wrap (m * x) = m * x := IntWalk.i64_in _ (by omega)
  have f2 : Int.tmod (m * x) P = m * x % P := Int.tmod_eq_emod_of_nonneg q.1
  have f3 : (P == 0) = false := by simp; omega
  have f4 : ¬ P = 0 := by omega
  go_enter Try.func18, Try.ntmps18
  go_wp2_with fail
  refine (wrong_call P Q G H _ _ 1 2 [r] [y, m] _ ?r1 ?r2 (by simp) (by simp) _ HE.out).mono ?_
  case r1 => exact RowI.one (by simp [go_sem]) (by simp [go_sem] <;> omega)
  case r2 => exact RowI.two (by simp [go_sem]) (by simp [go_sem]) (by simp [go_sem] <;> omega)
  rintro e w1 ⟨rfl, hb1⟩
  have z1 := hb1.size
  simp at z1
  have k0 := kept hb1 (b := w.heap.size) (o := 0) (v := .int .i64 P) (by simp [go_sem]) (by simp [go_sem] <;> omega)
  have k1 := kept hb1 (b := w.heap.size) (o := 1) (v := .int .i64 Q) (by simp [go_sem]) (by simp [go_sem] <;> omega)
  have k2 := kept hb1 (b := w.heap.size) (o := 2) (v := .int .i64 G) (by simp [go_sem]) (by simp [go_sem] <;> omega)
  have r0 := kept hb1 (b := w.heap.size + 1) (o := 0) (v := .int .i64 0) (by simp [go_sem]) (by simp [go_sem] <;> omega)
  have r1' := kept hb1 (b := w.heap.size + 1) (o := 1) (v := .int .i64 0) (by simp [go_sem]) (by simp [go_sem] <;> omega)
  have s0 := (froz hb1 (b := w.heap.size + 1) (o := 0) (by simp [go_sem] <;> omega)).trans (show _ = false by simp [go_sem])
  have s1 := (froz hb1 (b := w.heap.size + 1) (o := 1) (by simp [go_sem] <;> omega)).trans (show _ = false by simp [go_sem])
  go_wp2_with fail
  refine wp_region_still_tail 17 (by kernel_rfl) (by kernel_rfl) ?_
  simp only [List.take_succ_cons, List.take_zero, List.drop_succ_cons, List.drop_zero]
  iterate 5 still_step
  still_call (still_of (power_Of' G r P _ (by omega) (by omega) (by omega) g2))
  iterate 5 still_step
  still_call (still_of (power_Of' y r P _ (by omega) (by omega) (by omega) g2))
  rw [HX.out]
  iterate 5 still_step
  refine wpStill_nil ?_
  change wpList _ _ _ _ _ w1.drew
  go_wp2
  refine bodyPost_ret (v := .tuple #[.agg #[.int .i64 (pw G r P), .int .i64 (m * x % P)], .int .i64 0]) ?_ rfl ?_
  · simp [results, Try.f18, go_sem, r0, r1']
  · exact ⟨rfl, (((below_two (((((Below.refl _ _).alloc (Nat.le_refl _) _).alloc (by simp <;> omega) _).alloc (by simp <;> omega) _).alloc (by simp <;> omega) _) hb1).setCell (by simp) _).setCell (by simp) _).drew⟩
set_option maxRecDepth 20000 in
set_option maxHeartbeats 1600000 in
theorem group_Lock_no (P Q G H y m r : Int) (w : World) (h : ¬ wrongE P Q G H [r] [y, m] = 0) :
    Calls Try.prog 18 #[.agg #[.int .i64 P, .int .i64 Q, .int .i64 G, .int .i64 H], .int .i64 y, .int .i64 m, .int .i64 r] w fun e w' => (∃ t : Int, ¬ t = 0 ∧ e = .returned (.tuple #[.agg #[.int .i64 0, .int .i64 0], .int .i64 t])) ∧ Below w.heap.size w w' := by
  obtain ⟨t, ht⟩ : ∃ t, wrongE P Q G H [r] [y, m] = t := ⟨_, rfl⟩
  rw [ht] at h
  have HE := Lib.hid ht
  clear ht
  have e1 : (t == 0) = false := by simpa using h
  have e2 : (t != 0) = true := by simpa using h
  go_enter Try.func18, Try.ntmps18
  go_wp2_with fail
  refine (wrong_call P Q G H _ _ 1 2 [r] [y, m] _ ?r1 ?r2 (by simp) (by simp) _ HE.out).mono ?_
  case r1 => exact RowI.one (by simp [go_sem]) (by simp [go_sem] <;> omega)
  case r2 => exact RowI.two (by simp [go_sem]) (by simp [go_sem]) (by simp [go_sem] <;> omega)
  rintro e w1 ⟨rfl, hb1⟩
  have z1 := hb1.size
  simp at z1
  have r0' := kept hb1 (b := w.heap.size + 1) (o := 0) (v := .int .i64 0) (by simp [go_sem]) (by simp [go_sem] <;> omega)
  have s0 := (froz hb1 (b := w.heap.size + 1) (o := 0) (by simp [go_sem] <;> omega)).trans (show _ = false by simp [go_sem])
  have r1' := kept hb1 (b := w.heap.size + 1) (o := 1) (v := .int .i64 0) (by simp [go_sem]) (by simp [go_sem] <;> omega)
  have s1 := (froz hb1 (b := w.heap.size + 1) (o := 1) (by simp [go_sem] <;> omega)).trans (show _ = false by simp [go_sem])
  go_wp2
  refine bodyPost_ret (v := .tuple #[.agg #[.int .i64 0, .int .i64 0], .int .i64 t]) ?_ rfl ?_
  · simp [results, Try.f18, go_sem, r0', r1']
  · exact ⟨⟨t, h, rfl⟩, ((below_two (((((Below.refl _ _).alloc (Nat.le_refl _) _).alloc (by simp <;> omega) _).alloc (by simp <;> omega) _).alloc (by simp <;> omega) _) hb1).setCell (by simp <;> omega) _).setCell (by simp <;> omega) _⟩
set_option maxRecDepth 20000 in
set_option maxHeartbeats 1600000 in
theorem group_Open (P Q G H a x y : Int) (w : World) (h : wrongE P Q G H [a] [x, y] = 0) :
    Calls Try.prog 19 #[.agg #[.int .i64 P, .int .i64 Q, .int .i64 G, .int .i64 H], .int .i64 a, .agg #[.int .i64 x, .int .i64 y]] w fun e w' => e = .returned (.tuple #[.int .i64 (y * pw x (Q - a) P % P), .int .i64 0]) ∧ Below w.heap.size w w' := by
  have HE := Lib.hid h
  obtain ⟨hg, a1, a2⟩ := wrongE_zero.1 h
  have ⟨g1, g2, g3, g4, _⟩ := (grpE_zero hg).1
  obtain ⟨r1, r2⟩ : 0 ≤ a ∧ a < Q := by simpa [powsB] using a1
  have ⟨m1, m2, _⟩ : 1 ≤ y ∧ y < P ∧ True := by
    have : memB P Q x = true ∧ memB P Q y = true := by simpa [memsB] using a2
    have := memB_iff.1 this.2
    exact ⟨this.1, this.2.1, trivial⟩
  clear h hg a1 a2
  have p1 := pw_nonneg x (Q - a) (show 1 ≤ P by omega)
  have p2 := pw_lt x (Q - a) (show 1 ≤ P by omega)
  obtain ⟨z, hx⟩ : ∃ z, pw x (Q - a) P = z := ⟨_, rfl⟩
  rw [hx] at p1 p2 ⊢
  have HX := Lib.hid hx
  clear hx
  have q := mul_lim (show 0 ≤ y by omega) (by omega) p1 (by omega)
  have f1 : IntKind.i64.wrap (y * z) = y * z := IntWalk.i64_in _ (by omega)
  have f2 : Int.tmod (y * z) P = y * z % P := Int.tmod_eq_emod_of_nonneg q.1
  have f3 : (P == 0) = false := by simp; omega
  have f4 : ¬ P = 0 := by omega
  go_enter Try.func19, Try.ntmps19
  go_wp2_with fail
  refine (wrong_call P Q G H _ _ 1 2 [a] [x, y] _ ?r1 ?r2 (by simp) (by simp) _ HE.out).mono ?_
  case r1 => exact RowI.one (by simp [go_sem]) (by simp [go_sem] <;> omega)
  case r2 => exact RowI.two (by simp [go_sem]) (by simp [go_sem]) (by simp [go_sem] <;> omega)
  rintro e w1 ⟨rfl, hb1⟩
  have z1 := hb1.size
  simp at z1
  have k0 := kept hb1 (b := w.heap.size) (o := 0) (v := .int .i64 P) (by simp [go_sem]) (by simp [go_sem] <;> omega)
  have k1 := kept hb1 (b := w.heap.size) (o := 1) (v := .int .i64 Q) (by simp [go_sem]) (by simp [go_sem] <;> omega)
  have k2 := kept hb1 (b := w.heap.size) (o := 2) (v := .int .i64 G) (by simp [go_sem]) (by simp [go_sem] <;> omega)
  have c0 := kept hb1 (b := w.heap.size + 1) (o := 0) (v := .int .i64 x) (by simp [go_sem]) (by simp [go_sem] <;> omega)
  have c1 := kept hb1 (b := w.heap.size + 1) (o := 1) (v := .int .i64 y) (by simp [go_sem]) (by simp [go_sem] <;> omega)
  have f5 : IntKind.i64.wrap (Q - a) = Q - a := IntWalk.i64_in _ (by omega)
  go_wp2_with fail
  refine wp_region_still_tail 15 (by kernel_rfl) (by kernel_rfl) ?_
  simp only [List.take_succ_cons, List.take_zero, List.drop_succ_cons, List.drop_zero]
  iterate 10 still_step
  still_call (still_of (power_Of' x (Q - a) P _ (by omega) (by omega) (by omega) g2))
  rw [HX.out]
  iterate 4 still_step
  refine wpStill_nil ?_
  change wpList _ _ _ _ _ w1.drew
  go_wp2
  go_ret2
  exact ⟨rfl, (below_two (((((Below.refl _ _).alloc (Nat.le_refl _) _).alloc (by simp <;> omega) _).alloc (by simp <;> omega) _).alloc (by simp <;> omega) _) hb1).drew⟩
set_option maxRecDepth 20000 in
set_option maxHeartbeats 1600000 in
theorem group_Open_no (P Q G H a x y : Int) (w : World) (h : ¬ wrongE P Q G H [a] [x, y] = 0) :
    Calls Try.prog 19 #[.agg #[.int .i64 P, .int .i64 Q, .int .i64 G, .int .i64 H], .int .i64 a, .agg #[.int .i64 x, .int .i64 y]] w fun e w' => (∃ t : Int, ¬ t = 0 ∧ e = .returned (.tuple #[.int .i64 0, .int .i64 t])) ∧ Below w.heap.size w w' := by
  obtain ⟨t, ht⟩ : ∃ t, wrongE P Q G H [a] [x, y] = t := ⟨_, rfl⟩
  rw [ht] at h
  have HE := Lib.hid ht
  clear ht
  have e1 : (t == 0) = false := by simpa using h
  have e2 : (t != 0) = true := by simpa using h
  go_enter Try.func19, Try.ntmps19
  go_wp2_with fail
  refine (wrong_call P Q G H _ _ 1 2 [a] [x, y] _ ?r1 ?r2 (by simp) (by simp) _ HE.out).mono ?_
  case r1 => exact RowI.one (by simp [go_sem]) (by simp [go_sem] <;> omega)
  case r2 => exact RowI.two (by simp [go_sem]) (by simp [go_sem]) (by simp [go_sem] <;> omega)
  rintro e w1 ⟨rfl, hb1⟩
  have z1 := hb1.size
  simp at z1
  go_wp2
  go_ret2
  exact ⟨⟨t, h, rfl⟩, below_two (((((Below.refl _ _).alloc (Nat.le_refl _) _).alloc (by simp <;> omega) _).alloc (by simp <;> omega) _).alloc (by simp <;> omega) _) hb1⟩
theorem RowI.four {W : World} {b : Nat} {x y z u : Int} (h : W.cell? ⟨b, 0, none⟩ = some (.int .i64 x)) (h' : W.cell? ⟨b, 1, none⟩ = some (.int .i64 y)) (h2 : W.cell? ⟨b, 2, none⟩ = some (.int .i64 z)) (h3 : W.cell? ⟨b, 3, none⟩ = some (.int .i64 u)) (hb : b < W.heap.size) : RowI W (some ⟨b, 0, none⟩) [x, y, z, u] := fun i v hv => by
  match i, hv with
  | 0, hv => cases hv; exact ⟨b, 0, rfl, hb, h⟩
  | 1, hv => cases hv; exact ⟨b, 0, rfl, hb, h'⟩
  | 2, hv => cases hv; exact ⟨b, 0, rfl, hb, h2⟩
  | 3, hv => cases hv; exact ⟨b, 0, rfl, hb, h3⟩
  | i + 4, hv => simp at hv
set_option maxRecDepth 20000 in
set_option maxHeartbeats 1600000 in
theorem group_Mul (P Q G H x y z u : Int) (w : World) (h : wrongE P Q G H [] [x, y, z, u] = 0) :
    Calls Try.prog 20 #[.agg #[.int .i64 P, .int .i64 Q, .int .i64 G, .int .i64 H], .agg #[.int .i64 x, .int .i64 y], .agg #[.int .i64 z, .int .i64 u]] w fun e w' => e = .returned (.tuple #[.agg #[.int .i64 (x * z % P), .int .i64 (y * u % P)], .int .i64 0]) ∧ Below w.heap.size w w' := by
  have HE := Lib.hid h
  obtain ⟨hg, a1, a2⟩ := wrongE_zero.1 h
  have ⟨g1, g2, g3, g4, _⟩ := (grpE_zero hg).1
  have hm : memB P Q x = true ∧ memB P Q y = true ∧ memB P Q z = true ∧ memB P Q u = true := by simpa [memsB] using a2
  obtain ⟨x1, x2, _⟩ := memB_iff.1 hm.1
  obtain ⟨y1, y2, _⟩ := memB_iff.1 hm.2.1
  obtain ⟨z1, z2, _⟩ := memB_iff.1 hm.2.2.1
  obtain ⟨u1, u2, _⟩ := memB_iff.1 hm.2.2.2
  clear h hg a1 a2 hm
  have q := mul_lim (show 0 ≤ x by omega) (by omega) (show 0 ≤ z by omega) (by omega)
  have q' := mul_lim (show 0 ≤ y by omega) (by omega) (show 0 ≤ u by omega) (by omega)
  have f1 : IntKind.i64.wrap (x * z) = x * z := IntWalk.i64_in _ (by omega)
  have f2 : Int.tmod (x * z) P = x * z % P := Int.tmod_eq_emod_of_nonneg q.1
  have f5 : IntKind.i64.wrap (y * u) = y * u := IntWalk.i64_in _ (by omega)
  have f6 : Int.tmod (y * u) P = y * u % P := Int.tmod_eq_emod_of_nonneg q'.1
  have f3 : (P == 0) = false := by simp; omega
  have f4 : ¬ P = 0 := by omega
  go_enter Try.func20, Try.ntmps20
  go_wp2_with fail
  refine (wrong_call P Q G H _ _ 0 4 [] [x, y, z, u] _ ?r1 ?r2 (by simp) (by simp) _ HE.out).mono ?_
  case r1 => exact RowI.nil _ _
  case r2 => exact RowI.four (by simp [go_sem]) (by simp [go_sem]) (by simp [go_sem]) (by simp [go_sem]) (by simp [go_sem] <;> omega)
  rintro e w1 ⟨rfl, hb1⟩
  have z1 := hb1.size
  simp at z1
  have k0 := kept hb1 (b := w.heap.size) (o := 0) (v := .int .i64 P) (by simp [go_sem]) (by simp [go_sem] <;> omega)
  have c0 := kept hb1 (b := w.heap.size + 1) (o := 0) (v := .int .i64 x) (by simp [go_sem]) (by simp [go_sem] <;> omega)
  have c1 := kept hb1 (b := w.heap.size + 1) (o := 1) (v := .int .i64 y) (by simp [go_sem]) (by simp [go_sem] <;> omega)
  have d0 := kept hb1 (b := w.heap.size + 1 + 1) (o := 0) (v := .int .i64 z) (by simp [go_sem]) (by simp [go_sem] <;> omega)
  have d1 := kept hb1 (b := w.heap.size + 1 + 1) (o := 1) (v := .int .i64 u) (by simp [go_sem]) (by simp [go_sem] <;> omega)
  have r0 := kept hb1 (b := w.heap.size + 1 + 1 + 1) (o := 0) (v := .int .i64 0) (by simp [go_sem]) (by simp [go_sem] <;> omega)
  have r1' := kept hb1 (b := w.heap.size + 1 + 1 + 1) (o := 1) (v := .int .i64 0) (by simp [go_sem]) (by simp [go_sem] <;> omega)
  have s0 := (froz hb1 (b := w.heap.size + 1 + 1 + 1) (o := 0) (by simp [go_sem] <;> omega)).trans (show _ = false by simp [go_sem])
  have s1 := (froz hb1 (b := w.heap.size + 1 + 1 + 1) (o := 1) (by simp [go_sem] <;> omega)).trans (show _ = false by simp [go_sem])
  go_wp2_with fail
  refine wp_region_still_tail 17 (by kernel_rfl) (by kernel_rfl) ?_
  simp only [List.take_succ_cons, List.take_zero, List.drop_succ_cons, List.drop_zero]
  iterate 17 still_step
  refine wpStill_nil ?_
  change wpList _ _ _ _ _ w1.drew
  go_wp2
  refine bodyPost_ret (v := .tuple #[.agg #[.int .i64 (x * z % P), .int .i64 (y * u % P)], .int .i64 0]) ?_ rfl ?_
  · simp [results, Try.f20, go_sem, r0, r1']
  · exact ⟨rfl, (((below_two ((((((Below.refl _ _).alloc (Nat.le_refl _) _).alloc (by simp <;> omega) _).alloc (by simp <;> omega) _).alloc (by simp <;> omega) _).alloc (by simp <;> omega) _) hb1).setCell (by simp <;> omega) _).setCell (by simp <;> omega) _).drew⟩
set_option maxRecDepth 20000 in
set_option maxHeartbeats 1600000 in
theorem group_Mul_no (P Q G H x y z u : Int) (w : World) (h : ¬ wrongE P Q G H [] [x, y, z, u] = 0) :
    Calls Try.prog 20 #[.agg #[.int .i64 P, .int .i64 Q, .int .i64 G, .int .i64 H], .agg #[.int .i64 x, .int .i64 y], .agg #[.int .i64 z, .int .i64 u]] w fun e w' => (∃ t : Int, ¬ t = 0 ∧ e = .returned (.tuple #[.agg #[.int .i64 0, .int .i64 0], .int .i64 t])) ∧ Below w.heap.size w w' := by
  obtain ⟨t, ht⟩ : ∃ t, wrongE P Q G H [] [x, y, z, u] = t := ⟨_, rfl⟩
  rw [ht] at h
  have HE := Lib.hid ht
  clear ht
  have e1 : (t == 0) = false := by simpa using h
  have e2 : (t != 0) = true := by simpa using h
  go_enter Try.func20, Try.ntmps20
  go_wp2_with fail
  refine (wrong_call P Q G H _ _ 0 4 [] [x, y, z, u] _ ?r1 ?r2 (by simp) (by simp) _ HE.out).mono ?_
  case r1 => exact RowI.nil _ _
  case r2 => exact RowI.four (by simp [go_sem]) (by simp [go_sem]) (by simp [go_sem]) (by simp [go_sem]) (by simp [go_sem] <;> omega)
  rintro e w1 ⟨rfl, hb1⟩
  have z1 := hb1.size
  simp at z1
  have r0' := kept hb1 (b := w.heap.size + 1 + 1 + 1) (o := 0) (v := .int .i64 0) (by simp [go_sem]) (by simp [go_sem] <;> omega)
  have s0 := (froz hb1 (b := w.heap.size + 1 + 1 + 1) (o := 0) (by simp [go_sem] <;> omega)).trans (show _ = false by simp [go_sem])
  have r1' := kept hb1 (b := w.heap.size + 1 + 1 + 1) (o := 1) (v := .int .i64 0) (by simp [go_sem]) (by simp [go_sem] <;> omega)
  have s1 := (froz hb1 (b := w.heap.size + 1 + 1 + 1) (o := 1) (by simp [go_sem] <;> omega)).trans (show _ = false by simp [go_sem])
  go_wp2
  refine bodyPost_ret (v := .tuple #[.agg #[.int .i64 0, .int .i64 0], .int .i64 t]) ?_ rfl ?_
  · simp [results, Try.f20, go_sem, r0', r1']
  · exact ⟨⟨t, h, rfl⟩, ((below_two ((((((Below.refl _ _).alloc (Nat.le_refl _) _).alloc (by simp <;> omega) _).alloc (by simp <;> omega) _).alloc (by simp <;> omega) _).alloc (by simp <;> omega) _) hb1).setCell (by simp <;> omega) _).setCell (by simp <;> omega) _⟩
end Go.Proofs.Ytgmkmlfppblpfaa
