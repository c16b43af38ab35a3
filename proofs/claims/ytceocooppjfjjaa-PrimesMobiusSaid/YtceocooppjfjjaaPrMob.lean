/- The contract of primes.Mobius. -/
import Derived.Test.YtceocooppjfjjaaPrC
import Derived.Test.YtceocooppjfjjaaDivsN
namespace Go.Proofs.Ytceocooppjfjjaa
open Go.RowKit Go.Shelf
attribute [local go_sem] Oper.semAt_some
set_option linter.unusedVariables false
set_option linter.unusedSimpArgs false
theorem muf_far : ∀ {l : List (Nat × Nat)}, (∃ q ∈ l, 1 < q.2) → M.muf l = 0
  | [], h => by obtain ⟨q, hq, _⟩ := h; simp at hq
  | x :: t, h => by
    unfold M.muf
    by_cases hx : 1 < x.2
    · rw [if_pos hx]
    · rw [if_neg hx, muf_far (l := t) (by
        obtain ⟨q, hq, h1⟩ := h
        rcases List.mem_cons.1 hq with rfl | hq
        · exact absurd h1 hx
        · exact ⟨q, hq, h1⟩)]
      rfl
theorem muf_small : ∀ l : List (Nat × Nat), -1 ≤ M.muf l ∧ M.muf l ≤ 1
  | [] => ⟨by decide, by decide⟩
  | x :: t => by
    have := muf_small t
    unfold M.muf
    split <;> omega
/-- the world while Mobius runs -/
def MoI (w W : World) (x : Int) : Prop := Below w.heap.size w W ∧ Boxed W w.heap.size 3 (.int .i64 0) ∧ Boxed W (w.heap.size + 1) 22 (.int .i64 0) ∧ Boxed W (w.heap.size + 1 + 1) 3 (.int .i64 x)
theorem MoI.alloc {w W : World} {b : Int} (h : MoI w W b) (o : Obj) : MoI w (W.alloc o) b := ⟨h.1.alloc h.1.size o, h.2.1.alloc o, h.2.2.1.alloc o, h.2.2.2.alloc o⟩
theorem MoI.put {w W : World} {b : Int} (h : MoI w W b) {k : Nat} (hk : w.heap.size + 3 ≤ k) (o : Obj) : MoI w (W.putObj k o) b :=
  ⟨below_put h.1 (by omega) o, boxed_put h.2.1 (by omega) o, boxed_put h.2.2.1 (by omega) o, boxed_put h.2.2.2 (by omega) o⟩
theorem MoI.set {w W : World} {b : Int} (h : MoI w W b) {k : Nat} (hk : w.heap.size + 3 ≤ k) (v : Value) : MoI w (W.setCell ⟨k, 0, none⟩ v) b :=
  ⟨h.1.setCell (p := ⟨k, 0, none⟩) (by simp; omega) v, boxed_other h.2.1 (by omega) v, boxed_other h.2.2.1 (by omega) v, boxed_other h.2.2.2 (by omega) v⟩
theorem MoI.turn {w W : World} {b : Int} (h : MoI w W b) (x : Int) : MoI w (W.setCell ⟨w.heap.size + 1 + 1, 0, none⟩ (.int .i64 x)) x :=
  ⟨h.1.setCell (p := ⟨w.heap.size + 1 + 1, 0, none⟩) (by simp; omega) _, boxed_other h.2.1 (by omega) _, boxed_other h.2.2.1 (by omega) _, h.2.2.2.set _⟩
theorem MoI.res {w W : World} {b : Int} (h : MoI w W b) : MoI w ((W.setCell ⟨w.heap.size, 0, none⟩ (.int .i64 0)).setCell ⟨w.heap.size + 1, 0, none⟩ (.int .i64 0)) b :=
  ⟨(h.1.setCell (p := ⟨w.heap.size, 0, none⟩) (by simp) _).setCell (p := ⟨w.heap.size + 1, 0, none⟩) (by simp) _, boxed_other (h.2.1.set _) (by omega) _, (boxed_other h.2.2.1 (by omega) _).set _, boxed_other (boxed_other h.2.2.2 (by omega) _) (by omega) _⟩
set_option maxHeartbeats 2000000 in
theorem primes_Mobius_nat (N : Nat) (w : World) (h1 : 1 ≤ N) (h2 : N ≤ 1048576) :
    Calls Try.prog 23 #[.int .i64 N] w fun e w' => e = .returned (.tuple #[.int .i64 (M.mu N), .int .i64 0]) ∧ Below w.heap.size w w' := by
  have ho : primes_outB N = false := by simp [primes_outB]; omega
  refine (callsIn_wide (n := 0)).1 ?_
  refine callsIn_of_wp_marks Try.func23 rfl trivial ?_ rfl
  simp only [Try.ntmps23, List.size_toArray, List.length_cons, List.length_nil, Nat.reduceAdd, Nat.reduceSub, Array.replicate_succ, Array.replicate_zero, List.push_toArray, List.append_toArray, List.nil_append, List.cons_append]
  gi_wp2
  refine ⟨trivial, rfl, (callsIn_wide.2 (primes_out _ _)).mono ?_⟩
  rintro e w' ⟨rfl, rfl⟩
  gi_wp2
  refine ⟨trivial, rfl, (callsIn_wide.2 (primes_powers _ _)).mono ?_⟩
  rintro e w' ⟨rfl, rfl⟩
  gi_wp2
  have hB0 : Boxed ((((w.alloc (.cells #[.int .i64 0] 3)).alloc (.cells #[.int .i64 0] 22)).alloc (.cells #[.int .i64 1] 3)).alloc (.cells #[.int .i64 N] 2)) (w.heap.size + 1 + 1 + 1) 2 (.int .i64 N) := by
    have := Boxed.new (((w.alloc (.cells #[.int .i64 0] 3)).alloc (.cells #[.int .i64 0] 22)).alloc (.cells #[.int .i64 1] 3)) 2 (.int .i64 N)
    simpa only [World.size_alloc] using this
  refine wp_range_box (gf := 60) rfl (enters_of Try.func60 (by kernel_rfl) rfl) (powers_iter N h1 h2) hB0 rfl
    (fun pre W => MoI w W (M.muf pre))
    (fun pre W => M.muf (M.fac N) = 0 ∧ ∃ x, MoI w W x) ?st ?stx ?i0
    (fun x B => { tmps := #[.int .i64 N, undef, .pointer (some ⟨w.heap.size, 0, none⟩), .pointer (some ⟨w.heap.size + 1, 0, none⟩), .pointer (some ⟨w.heap.size + 1 + 1, 0, none⟩), .pointer (some ⟨B, 0, none⟩), .int .i64 N, .bool false, .int .i64 N,
      .func (.func 60) #[] #[.pointer (some ⟨w.heap.size + 1 + 1 + 1, 0, none⟩)], .agg #[.int .i64 x.1, .int .i64 x.2], undef, undef, undef, undef, undef, undef], defers := [] })
    (fun x => .cells #[.int .i64 x.1, .int .i64 x.2] 64) ?assign ?body ?done ?stop
  case st =>
    simp only [World.size_alloc]
    exact ⟨fun pre W o h => h.alloc o, fun pre W k o _ hk _ _ h => h.put (by omega) o, fun pre W v h => h.set (by omega) v⟩
  case stx =>
    simp only [World.size_alloc]
    rintro pre W k o _ hk _ _ ⟨h0, x, h⟩
    exact ⟨h0, x, h.put (by omega) o⟩
  case i0 =>
    refine ⟨((((Below.refl _ _).alloc (Nat.le_refl _) _).alloc (by simp) _).alloc (by simp; omega) _).alloc (by simp; omega) _, ?_, ?_, ?_⟩
    · exact (((Boxed.new _ _ _).alloc _).alloc _).alloc _
    · have := ((Boxed.new (w.alloc (.cells #[.int .i64 0] 3)) 22 (.int .i64 0)).alloc (.cells #[.int .i64 1] 3)).alloc (.cells #[.int .i64 N] 2)
      simpa only [World.size_alloc] using this
    · rw [show M.muf [] = 1 from rfl]
      have := (Boxed.new ((w.alloc (.cells #[.int .i64 0] 3)).alloc (.cells #[.int .i64 0] 22)) 3 (.int .i64 1)).alloc (.cells #[.int .i64 N] 2)
      simpa only [World.size_alloc] using this
  case assign =>
    intro l x W K hK
    dsimp only [encP]
    gi_wp2
    exact hK
  case body =>
    rintro l B pre x W hI hpre hbox hB
    simp only [World.size_alloc] at hB
    have hsm := muf_small pre
    have HZ : Hid (1 < x.2 → M.muf (M.fac N) = 0) := Lib.hid fun h => muf_far ⟨x, hpre.subset (by simp), h⟩
    have HN : Hid (¬ 1 < x.2 → M.muf (pre ++ [x]) = - M.muf pre) := Lib.hid fun h => by rw [M.muf_snoc, if_neg h]
    have c1 := hI.2.1.cell
    have c2 := hI.2.2.1.cell
    have c3 := hI.2.2.2.cell
    have f1 := hI.2.1.frozen
    have f2 := hI.2.2.1.frozen
    have f3 := hI.2.2.2.frozen
    have d1 : W.cell? ⟨B, 1, none⟩ = some (.int .i64 x.2) := by simp [World.cell?, hbox]
    have HI := Lib.hid hI
    obtain ⟨X, hX⟩ : ∃ X, M.muf pre = X := ⟨_, rfl⟩
    rw [hX] at c3 hsm HN HI
    clear hI hbox hpre hX h1 h2 ho hB0
    obtain ⟨xp, xk⟩ := x
    by_cases hk : 1 < xk
    · have HZ0 := Lib.hid (HZ.out hk)
      gi_wp2
      exact ⟨(KeepsOthers.setCell _ _ _).trans (KeepsOthers.setCell _ _ _), HZ0.out, X, HI.out.res⟩
    · have HN0 := Lib.hid (HN.out hk)
      gi_wp2
      refine ⟨KeepsOthers.setCell _ _ _, fun v hv => boxed_other hv (by omega) _, ?_⟩
      show MoI w _ (M.muf _)
      rw [HN0.out]
      exact HI.out.turn _
  case done =>
    rintro D W hI hK hD
    simp only [World.size_alloc] at hD
    have c1 := hI.2.1.cell
    have c2 := hI.2.2.1.cell
    have c3 := hI.2.2.2.cell
    have f1 := hI.2.1.frozen
    have f2 := hI.2.2.1.frozen
    have HI := Lib.hid hI
    have hmu : M.muf (M.fac N) = M.mu N := rfl
    rw [hmu] at c3 HI
    clear hI
    gi_wp2
    have hK' := deferred_other (deferred_other hK (show w.heap.size ≠ D by omega) (.int .i64 (M.mu N))) (show w.heap.size + 1 ≠ D by omega) (.int .i64 0)
    refine ⟨by simp, .inl ⟨_, _, rfl, run_takeDeferred hK', ?_⟩⟩
    have b1 := (boxed_put (boxed_other (HI.out.2.1.set (.int .i64 (M.mu N))) (show w.heap.size + 1 ≠ w.heap.size by omega) (.int .i64 0)) (show D ≠ w.heap.size by omega) (.deferred none)).cell
    have b2 := (boxed_put ((boxed_other HI.out.2.2.1 (show w.heap.size ≠ w.heap.size + 1 by omega) (.int .i64 (M.mu N))).set (.int .i64 0)) (show D ≠ w.heap.size + 1 by omega) (.deferred none)).cell
    have bb := below_put ((HI.out.1.setCell (p := ⟨w.heap.size, 0, none⟩) (by simp) (.int .i64 (M.mu N))).setCell (p := ⟨w.heap.size + 1, 0, none⟩) (by simp) (.int .i64 0)) (show w.heap.size ≤ D by omega) (.deferred none)
    refine ⟨.tuple #[.int .i64 (M.mu N), .int .i64 0], ?_, rfl, bb⟩
    simp [results, Try.f23, go_sem, b1, b2]
  case stop =>
    rintro D pre W hpre ⟨h0, x, hI⟩ hK hD
    simp only [World.size_alloc] at hD
    have HZ : Hid (M.mu N = 0) := Lib.hid h0
    gi_wp2
    refine ⟨by simp, .inl ⟨_, _, rfl, run_takeDeferred hK, ?_⟩⟩
    have hI5 := hI.put (show w.heap.size + 3 ≤ D by omega) (.deferred none)
    have d2 := hI5.2.1.cell
    have d3 := hI5.2.2.1.cell
    refine ⟨.tuple #[.int .i64 0, .int .i64 0], ?_, ?_, hI5.1⟩
    · simp [results, Try.f23, go_sem, d2, d3]
    · rw [HZ.out]
end Go.Proofs.Ytceocooppjfjjaa
