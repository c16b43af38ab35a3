/- The contract of primes.Phi. -/
import Derived.Test.YtceocooppjfjjaaPrC
import Derived.Test.YtceocooppjfjjaaPhi
namespace Go.Proofs.Ytceocooppjfjjaa
open Go.RowKit Go.Shelf
attribute [local go_sem] Oper.semAt_some
set_option linter.unusedVariables false
set_option linter.unusedSimpArgs false
/-- the world while Phi runs -/
def PhI (w W : World) (v : Value) : Prop := Below w.heap.size w W ∧ Boxed W w.heap.size 2 v
theorem PhI.alloc {w W : World} {b : Value} (h : PhI w W b) (o : Obj) : PhI w (W.alloc o) b := ⟨h.1.alloc h.1.size o, h.2.alloc o⟩
theorem PhI.put {w W : World} {b : Value} (h : PhI w W b) {k : Nat} (hk : w.heap.size + 1 ≤ k) (o : Obj) : PhI w (W.putObj k o) b := ⟨below_put h.1 (by omega) o, boxed_put h.2 (by omega) o⟩
theorem PhI.set {w W : World} {b : Value} (h : PhI w W b) {k : Nat} (hk : w.heap.size + 1 ≤ k) (v : Value) : PhI w (W.setCell ⟨k, 0, none⟩ v) b :=
  ⟨h.1.setCell (p := ⟨k, 0, none⟩) (by simp; omega) v, boxed_other h.2 (by omega) v⟩
theorem PhI.res {w W : World} {b : Value} (h : PhI w W b) (v : Value) : PhI w (W.setCell ⟨w.heap.size, 0, none⟩ v) v :=
  ⟨h.1.setCell (p := ⟨w.heap.size, 0, none⟩) (by simp) v, h.2.set v⟩
theorem PhI.drew {w W : World} {b : Value} (h : PhI w W b) : PhI w W.drew b := ⟨h.1.drew, h.2⟩
theorem phi_round {N : Nat} (h1 : 1 ≤ N) (h2 : N ≤ 1048576) {pre : List (Nat × Nat)} {x : Nat × Nat} (h : pre ++ [x] <+: M.fac N) :
    ∃ X P Y : Int, X = M.phf N pre ∧ P = x.1 ∧ (P == 0) = false ∧ X / P = Y ∧ 2 ≤ P ∧ P ≤ 1048576 ∧ 0 ≤ X ∧ X ≤ 1048576 ∧ 0 ≤ Y ∧ Y ≤ 1048576 ∧ 0 ≤ Y * (P - 1) ∧ Y * (P - 1) ≤ 1048576 ∧ Hid (((M.phf N (pre ++ [x]) : Nat) : Int) = Y * (P - 1)) := by
  have hx : x ∈ M.fac N := h.subset (by simp)
  obtain ⟨k1, k2, k3, k4⟩ := (M.fac_spec h1).dvd x hx
  have h3 := M.phf_le N pre
  have h4 := M.phf_le N (pre ++ [x])
  obtain ⟨k, hk⟩ : ∃ k, x.2 = k + 1 := ⟨x.2 - 1, by omega⟩
  have h5 : x.1 ∣ N := Nat.dvd_trans ⟨x.1 ^ k, by rw [hk, Nat.pow_succ, Nat.mul_comm]⟩ k4
  have h6 := Nat.le_of_dvd h1 h5
  have e : ((M.phf N (pre ++ [x]) : Nat) : Int) = ((M.phf N pre / x.1 : Nat) : Int) * ((x.1 : Int) - 1) := by
    rw [M.phf_snoc, Int.natCast_mul]; congr 1; omega
  refine ⟨_, _, ((M.phf N pre / x.1 : Nat) : Int), rfl, rfl, by simp; omega, by simp, by omega, by omega, by omega, by omega, Int.natCast_nonneg _, by have := Nat.div_le_self (M.phf N pre) x.1; omega, ?_, ?_, e⟩ <;> rw [← e] <;> omega
set_option maxHeartbeats 2000000 in
theorem primes_Phi_nat (N : Nat) (w : World) (h1 : 1 ≤ N) (h2 : N ≤ 1048576) :
    Calls Try.prog 14 #[.int .i64 N] w fun e w' => e = .returned (.tuple #[.int .i64 (M.phi N), .int .i64 0]) ∧ Below w.heap.size w w' := by
  have ho : primes_outB N = false := by simp [primes_outB]; omega
  refine (callsIn_wide (n := 0)).1 ?_
  refine callsIn_of_wp_marks Try.func14 rfl trivial ?_ rfl
  simp only [Try.ntmps14, List.size_toArray, List.length_cons, List.length_nil, Nat.reduceAdd, Nat.reduceSub, Array.replicate_succ, Array.replicate_zero, List.push_toArray, List.append_toArray, List.nil_append, List.cons_append]
  gi_wp2
  refine ⟨trivial, rfl, (callsIn_wide.2 (primes_out _ _)).mono ?_⟩
  rintro e w' ⟨rfl, rfl⟩
  gi_wp2
  refine ⟨trivial, rfl, (callsIn_wide.2 (primes_powers _ _)).mono ?_⟩
  rintro e w' ⟨rfl, rfl⟩
  gi_wp2
  have hB0 : Boxed ((w.alloc (.cells #[.int .i64 N] 2)).alloc (.cells #[.int .i64 N] 2)) (w.heap.size + 1) 2 (.int .i64 N) := by
    have := Boxed.new (w.alloc (.cells #[.int .i64 N] 2)) 2 (.int .i64 N)
    simpa only [World.size_alloc] using this
  refine wp_range_box (gf := 60) rfl (enters_of Try.func60 (by kernel_rfl) rfl) (powers_iter N h1 h2) hB0 rfl
    (fun pre W => PhI w W (.int .i64 (M.phf N pre)))
    (fun pre W => False) ?st (fun _ _ _ _ _ _ _ _ h => h) ?i0
    (fun x B => { tmps := #[.int .i64 N, undef, .int .i64 0, .int .i64 0, .pointer (some ⟨w.heap.size, 0, none⟩), .pointer (some ⟨B, 0, none⟩), .int .i64 N, .bool false, .int .i64 N, .int .i64 N,
      .func (.func 60) #[] #[.pointer (some ⟨w.heap.size + 1, 0, none⟩)], .agg #[.int .i64 x.1, .int .i64 x.2], undef, undef, undef, undef, undef, undef, undef, undef, undef], defers := [] })
    (fun x => .cells #[.int .i64 x.1, .int .i64 x.2] 64) ?assign ?body ?done (fun _ _ _ _ h => h.elim)
  case st =>
    simp only [World.size_alloc]
    exact ⟨fun pre W o h => h.alloc o, fun pre W k o _ hk _ _ h => h.put (by omega) o, fun pre W v h => h.set (by omega) v⟩
  case i0 =>
    refine ⟨((Below.refl _ _).alloc (Nat.le_refl _) _).alloc (by simp) _, ?_⟩
    exact (Boxed.new _ _ _).alloc _
  case assign =>
    intro l x W K hK
    dsimp only [encP]
    gi_wp2
    exact hK
  case body =>
    rintro l B pre x W hI hpre hbox hB
    simp only [World.size_alloc] at hB
    have hmx : Try.prog.follows .mixedOrders = true := by kernel_rfl
    obtain ⟨X, P, Y, hX, hP, z0, q0, p1, p2, x1, x2, y1, y2, k1, k2, HS⟩ := phi_round h1 h2 hpre
    rw [← hX] at hI
    have c1 := hI.2.cell
    have f1 := hI.2.frozen
    have d0 : W.cell? ⟨B, 0, none⟩ = some (.int .i64 P) := by simp [World.cell?, hbox, hP]
    have HI := Lib.hid hI
    rw [show (.agg #[.int .i64 x.1, .int .i64 x.2] : Value) = .agg #[.int .i64 P, .int .i64 x.2] by rw [hP]]
    clear hI hX hP hbox hpre h1 h2 ho hB0
    have z1 : ¬ P = 0 := by omega
    have f2 : IntKind.i64.wrap (P - 1) = P - 1 := IntWalk.i64_in _ (by omega)
    have f3 : IntKind.i64.wrap (Y * (P - 1)) = Y * (P - 1) := IntWalk.i64_in _ (by omega)
    have f4 : IntKind.i64.wrap Y = Y := IntWalk.i64_in _ (by omega)
    have q1 : X.tdiv P = Y := by rw [Int.tdiv_eq_ediv_of_nonneg x1, q0]
    gi_wp2
    gi_region_o
    all_goals
      refine ⟨(KeepsOthers.setCell _ _ _).trans (KeepsOthers.drew _), fun v hv => boxed_other hv (by omega) _, ?_⟩
      show PhI w _ _
      rw [HS.out]
      exact (HI.out.res _).drew
  case done =>
    rintro D W hI hK hD
    simp only [World.size_alloc] at hD
    have c1 := hI.2.cell
    have f1 := hI.2.frozen
    have HI := Lib.hid hI
    clear hI
    gi_wp2
    refine ⟨by simp, .inl ⟨_, _, rfl, run_takeDeferred hK, ?_⟩⟩
    have hI5 := HI.out.put (show w.heap.size + 1 ≤ D by omega) (.deferred none)
    rw [M.phf_all (by omega)] at hI5
    refine ⟨.tuple #[.int .i64 (M.phi N), .int .i64 0], ?_, rfl, hI5.1⟩
    simp [results, Try.f14, go_sem, M.phf_all h1]
theorem primes_Phi (a : Int) (w : World) (h1 : 1 ≤ a) (h2 : a ≤ 1048576) :
    Calls Try.prog 14 #[.int .i64 a] w fun e w' => e = .returned (.tuple #[.int .i64 (M.phi a.toNat), .int .i64 0]) ∧ Below w.heap.size w w' := by
  obtain ⟨N, rfl⟩ := Int.eq_ofNat_of_zero_le (show 0 ≤ a by omega)
  exact primes_Phi_nat N w (by omega) (by omega)
end Go.Proofs.Ytceocooppjfjjaa
