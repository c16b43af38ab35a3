/- The contracts of package primes. -/
import Derived.Test.YtkodhpjmmiapaaaPrI
import Derived.Test.YtkodhpjmmiapaaaRefIs
namespace Go.Proofs.Ytkodhpjmmiapaaa
open Go.RowKit Go.Shelf
attribute [local go_sem] Oper.semAt_some
set_option linter.unusedVariables false
set_option linter.unusedSimpArgs false
theorem primes_powers (N : Int) (w : World) :
    Calls Try.prog 33 #[.int .i64 N] w fun e w' => e = .returned (.func (.func 49) #[] #[.pointer (some ⟨w.heap.size, 0, none⟩)]) ∧ w' = w.alloc (.cells #[.int .i64 N] 2) := by
  go_enter Try.func33, Try.ntmps33
  go_wp2
  go_ret
  exact ⟨rfl, rfl⟩
def primes_outB (n : Int) : Bool := decide (n < 1) || decide (1048576 < n)
theorem primes_out (n : Int) (w : World) : Calls Try.prog 32 #[.int .i64 n] w fun e w' => e = .returned (.bool (primes_outB n)) ∧ w = w' := by
  by_cases h1 : n < 1
  · go_enter Try.func32, Try.ntmps32
    go_wp2
    go_ret
    simp [primes_outB, h1]
  · by_cases h2 : 1048576 < n
    · go_enter Try.func32, Try.ntmps32
      go_wp2
      go_ret
      simp [primes_outB, h1, h2]
    · go_enter Try.func32, Try.ntmps32
      go_wp2
      go_ret
      simp [primes_outB, h1, h2]
theorem isB_nil {N : Nat} (h1 : 1 ≤ N) (h : M.fac N = []) : prB N = false := by
  refine prB_no fun hp => ?_
  rw [Int.toNat_natCast] at hp
  obtain ⟨k, t, e⟩ := (M.fac_prime h1).1 hp
  rw [h] at e; cases e
theorem isB_cons {N : Nat} (h1 : 1 ≤ N) {x : Nat × Nat} (h : [x] <+: M.fac N) : prB N = ((x.1 : Int) == N) := by
  obtain ⟨t, ht⟩ := h
  by_cases hx : x.1 = N
  · rw [show ((x.1 : Int) == N) = true by simp [hx]]
    refine prB_yes ?_
    rw [Int.toNat_natCast]
    exact (M.fac_prime h1).2 ⟨x.2, t, by rw [← ht]; simp [← hx]⟩
  · rw [show ((x.1 : Int) == N) = false by simp; omega]
    refine prB_no fun hp => ?_
    rw [Int.toNat_natCast] at hp
    obtain ⟨k, t', e⟩ := (M.fac_prime h1).1 hp
    rw [← ht] at e
    simp at e
    exact hx (by rw [e.1])
/-- the world while Is runs -/
def IsI (w W : World) (N : Nat) (b : Value) : Prop := Below w.heap.size w W ∧ Boxed W w.heap.size 2 (.int .i64 N) ∧ Boxed W (w.heap.size + 1) 4 b ∧ Boxed W (w.heap.size + 1 + 1) 27 (.int .i64 0)
theorem IsI.alloc {w W : World} {N : Nat} {b : Value} (h : IsI w W N b) (o : Obj) : IsI w (W.alloc o) N b := ⟨h.1.alloc h.1.size o, h.2.1.alloc o, h.2.2.1.alloc o, h.2.2.2.alloc o⟩
theorem IsI.put {w W : World} {N : Nat} {b : Value} (h : IsI w W N b) {k : Nat} (hk : w.heap.size + 3 ≤ k) (o : Obj) : IsI w (W.putObj k o) N b :=
  ⟨below_put h.1 (by omega) o, boxed_put h.2.1 (by omega) o, boxed_put h.2.2.1 (by omega) o, boxed_put h.2.2.2 (by omega) o⟩
theorem IsI.set {w W : World} {N : Nat} {b : Value} (h : IsI w W N b) {k : Nat} (hk : w.heap.size + 3 ≤ k) (v : Value) : IsI w (W.setCell ⟨k, 0, none⟩ v) N b :=
  ⟨h.1.setCell (p := ⟨k, 0, none⟩) (by simp; omega) v, boxed_other h.2.1 (by omega) v, boxed_other h.2.2.1 (by omega) v, boxed_other h.2.2.2 (by omega) v⟩
theorem IsI.res {w W : World} {N : Nat} {b : Value} (h : IsI w W N b) (v : Value) : IsI w ((W.setCell ⟨w.heap.size + 1, 0, none⟩ v).setCell ⟨w.heap.size + 1 + 1, 0, none⟩ (.int .i64 0)) N v :=
  ⟨(h.1.setCell (p := ⟨w.heap.size + 1, 0, none⟩) (by simp) v).setCell (p := ⟨w.heap.size + 1 + 1, 0, none⟩) (by simp; omega) _, boxed_other (boxed_other h.2.1 (by omega) v) (by omega) _, boxed_other (h.2.2.1.set v) (by omega) _,
   (boxed_other h.2.2.2 (by omega) v).set _⟩
theorem primes_Is (N : Nat) (w : World) (h1 : 1 ≤ N) (h2 : N ≤ 1048576) :
    Calls Try.prog 17 #[.int .i64 N] w fun e w' => e = .returned (.tuple #[.bool (prB N), .int .i64 0]) ∧ Below w.heap.size w w' := by
  have ho : primes_outB N = false := by simp [primes_outB]; omega
  refine (callsIn_wide (n := 0)).1 ?_
  refine callsIn_of_wp_marks Try.func17 rfl trivial ?_ rfl
  simp only [Try.ntmps17, List.size_toArray, List.length_cons, List.length_nil, Nat.reduceAdd, Nat.reduceSub, Array.replicate_succ, Array.replicate_zero, List.push_toArray, List.append_toArray, List.nil_append, List.cons_append]
  gi_wp2
  refine ⟨trivial, rfl, (callsIn_wide.2 (primes_out _ _)).mono ?_⟩
  rintro e w' ⟨rfl, rfl⟩
  gi_wp2
  refine ⟨trivial, rfl, (callsIn_wide.2 (primes_powers _ _)).mono ?_⟩
  rintro e w' ⟨rfl, rfl⟩
  gi_wp2
  have hB0 : Boxed ((((w.alloc (.cells #[.int .i64 N] 2)).alloc (.cells #[.bool false] 4)).alloc (.cells #[.int .i64 0] 27)).alloc (.cells #[.int .i64 N] 2)) (w.heap.size + 1 + 1 + 1) 2 (.int .i64 N) := by
    have := Boxed.new (((w.alloc (.cells #[.int .i64 N] 2)).alloc (.cells #[.bool false] 4)).alloc (.cells #[.int .i64 0] 27)) 2 (.int .i64 N)
    simpa only [World.size_alloc] using this
  refine wp_range_box (gf := 49) rfl (enters_of Try.func49 (by kernel_rfl) rfl) (powers_iter N h1 h2) hB0 rfl
    (fun pre W => pre = [] ∧ IsI w W N (.bool false))
    (fun pre W => ∃ x, pre = [x] ∧ IsI w W N (.bool ((x.1 : Int) == N))) ?st ?stx ⟨rfl, ?i0⟩
    (fun x B => { tmps := #[.int .i64 N, .pointer (some ⟨w.heap.size, 0, none⟩), .pointer (some ⟨w.heap.size + 1, 0, none⟩), .pointer (some ⟨w.heap.size + 1 + 1, 0, none⟩), .pointer (some ⟨B, 0, none⟩), .int .i64 N, .bool false, .int .i64 N,
      .func (.func 49) #[] #[.pointer (some ⟨w.heap.size + 1 + 1 + 1, 0, none⟩)], .agg #[.int .i64 x.1, .int .i64 x.2], undef, undef, undef, undef], defers := [] })
    (fun x => .cells #[.int .i64 x.1, .int .i64 x.2] 77) ?assign ?body ?done ?stop
  case st =>
    simp only [World.size_alloc]
    exact ⟨fun pre W o h => ⟨h.1, h.2.alloc o⟩, fun pre W k o _ hk _ _ h => ⟨h.1, h.2.put (by omega) o⟩, fun pre W v h => ⟨h.1, h.2.set (by omega) v⟩⟩
  case stx =>
    simp only [World.size_alloc]
    rintro pre W k o _ hk _ _ ⟨x, hx, h⟩
    exact ⟨x, hx, h.put (by omega) o⟩
  case i0 =>
    refine ⟨((((Below.refl _ _).alloc (Nat.le_refl _) _).alloc (by simp) _).alloc (by simp; omega) _).alloc (by simp; omega) _, ?_, ?_, ?_⟩
    · exact (((Boxed.new _ _ _).alloc _).alloc _).alloc _
    · have := ((Boxed.new (w.alloc (.cells #[.int .i64 N] 2)) 4 (.bool false)).alloc (.cells #[.int .i64 0] 27)).alloc (.cells #[.int .i64 N] 2)
      simpa only [World.size_alloc] using this
    · have := (Boxed.new ((w.alloc (.cells #[.int .i64 N] 2)).alloc (.cells #[.bool false] 4)) 27 (.int .i64 0)).alloc (.cells #[.int .i64 N] 2)
      simpa only [World.size_alloc] using this
  case assign =>
    intro l x W K hK
    dsimp only [encP]
    gi_wp2
    exact hK
  case body =>
    rintro l B pre x W ⟨rfl, hI⟩ hpre hbox hB
    simp only [World.size_alloc] at hB
    have ⟨hb, b1, b2, b3⟩ := hI
    have c1 := b1.cell
    have c2 := b2.cell
    have c3 := b3.cell
    have f2 := b2.frozen
    have f3 := b3.frozen
    have d0 : W.cell? ⟨B, 0, none⟩ = some (.int .i64 x.1) := by simp [World.cell?, hbox]
    clear b1 b2 b3 hb
    have HI := Lib.hid hI
    clear hI
    gi_wp2
    refine ⟨(KeepsOthers.setCell _ _ _).trans (KeepsOthers.setCell _ _ _), x, rfl, ?_⟩
    exact HI.out.res _ 
  case done =>
    rintro D W ⟨he, hI⟩ hK hD
    simp only [World.size_alloc] at hD
    have ⟨hb, b1, b2, b3⟩ := hI
    have c2 := b2.cell
    have c3 := b3.cell
    have f2 := b2.frozen
    have f3 := b3.frozen
    clear b1 b2 b3 hb
    have HI := Lib.hid hI
    have HE := Lib.hid he
    clear hI he
    gi_wp2
    have hK' := deferred_other (deferred_other hK (show w.heap.size + 1 ≠ D by omega) (.bool false)) (show w.heap.size + 1 + 1 ≠ D by omega) (.int .i64 0)
    refine ⟨by simp, .inl ⟨_, _, rfl, run_takeDeferred hK', ?_⟩⟩
    have hI5 := (HI.out.res (.bool false)).put (show w.heap.size + 3 ≤ D by omega) (.deferred none)
    have d2 := hI5.2.2.1.cell
    have d3 := hI5.2.2.2.cell
    refine ⟨.tuple #[.bool false, .int .i64 0], ?_, ?_, hI5.1⟩
    · simp [results, Try.f17, go_sem, d2, d3]
    · rw [isB_nil h1 HE.out]
  case stop =>
    rintro D pre W hpre ⟨x, rfl, hI⟩ hK hD
    simp only [World.size_alloc] at hD
    gi_wp2
    refine ⟨by simp, .inl ⟨_, _, rfl, run_takeDeferred hK, ?_⟩⟩
    have hI5 := hI.put (show w.heap.size + 3 ≤ D by omega) (.deferred none)
    have d2 := hI5.2.2.1.cell
    have d3 := hI5.2.2.2.cell
    refine ⟨.tuple #[.bool ((x.1 : Int) == N), .int .i64 0], ?_, ?_, hI5.1⟩
    · simp [results, Try.f17, go_sem, d2, d3]
    · rw [isB_cons h1 hpre]
theorem primes_Is_in (a : Int) (w : World) (h1 : 1 ≤ a) (h2 : a ≤ 1048576) :
    Calls Try.prog 17 #[.int .i64 a] w fun e w' => e = .returned (.tuple #[.bool (prB a), .int .i64 0]) ∧ Below w.heap.size w w' := by
  obtain ⟨N, rfl⟩ := Int.eq_ofNat_of_zero_le (show 0 ≤ a by omega)
  exact primes_Is N w (by omega) (by omega)
theorem primes_Is_out (a : Int) (w : World) (h : a < 1 ∨ 1048576 < a) :
    Calls Try.prog 17 #[.int .i64 a] w fun e w' => e = .returned (.tuple #[.bool false, .int .i64 2]) ∧ Below w.heap.size w w' := by
  have ho : primes_outB a = true := by simp [primes_outB]; omega
  clear h
  refine (callsIn_wide (n := 0)).1 ?_
  refine callsIn_of_wp_marks Try.func17 rfl trivial ?_ rfl
  simp only [Try.ntmps17, List.size_toArray, List.length_cons, List.length_nil, Nat.reduceAdd, Nat.reduceSub, Array.replicate_succ, Array.replicate_zero, List.push_toArray, List.append_toArray, List.nil_append, List.cons_append]
  gi_wp2
  refine ⟨trivial, rfl, (callsIn_wide.2 (primes_out _ _)).mono ?_⟩
  rintro e w' ⟨rfl, rfl⟩
  gi_wp2
  refine ⟨.tuple #[.bool false, .int .i64 2], ?_, rfl, (((Below.refl _ _).alloc (Nat.le_refl _) _).alloc (by simp) _).alloc (by simp; omega) _⟩
  have c1 := (((Boxed.new (w.alloc (.cells #[.int .i64 a] 2)) 4 (.bool false))).alloc (.cells #[.int .i64 2] 27)).cell
  have c2 := (Boxed.new ((w.alloc (.cells #[.int .i64 a] 2)).alloc (.cells #[.bool false] 4)) 27 (.int .i64 2)).cell
  simp only [World.size_alloc] at c1 c2
  simp [results, Try.f17, go_sem, c1, c2]
end Go.Proofs.Ytkodhpjmmiapaaa
