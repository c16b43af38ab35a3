/- The contract of slices.Collect over primes.powers, and of primes.Factor. -/
import Derived.Test.YtceocooppjfjjaaPrC
import Derived.Maps.AppendAt
namespace Go.Proofs.Ytceocooppjfjjaa
open Go.RowKit Go.Shelf Go.Maps
attribute [local go_sem] Oper.semAt_some
set_option linter.unusedVariables false
set_option linter.unusedSimpArgs false
def flatP (l : List (Nat × Nat)) : List Value := l.flatMap fun x => [.int .i64 x.1, .int .i64 x.2]
theorem flatP_snoc (l : List (Nat × Nat)) (x : Nat × Nat) : flatP (l ++ [x]) = flatP l ++ [.int .i64 x.1, .int .i64 x.2] := by simp [flatP]
/-- the world while the powers are collected -/
def ApI (B0 : Nat) (w : World) (pre : List (Nat × Nat)) (W : World) : Prop :=
  w.heap.size ≤ W.heap.size ∧ Below B0 w W ∧ ∃ v, Boxed W w.heap.size 65 v ∧ W.ownsRow (w.heap.size + 1) 64 2 v pre.length (flatP pre)
theorem row_block {W : World} {base : Nat} {e : TypeId} {size : Nat} {v : Value} {k : Nat} {xs : List Value} (h : W.ownsRow base e size v k xs) {j : Nat} (hj : j < base) : v.ownBlock = none ∨ v.ownBlock ≠ some j := by
  rcases h.2 with ⟨rfl, _⟩ | ⟨g, cap, cur, rfl, hg, _⟩
  · exact .inl rfl
  · refine .inr fun e' => ?_
    have : g = j := by simpa [Value.ownBlock] using e'
    omega
theorem row_lower {W : World} {base base' : Nat} {e : TypeId} {size : Nat} {v : Value} {k : Nat} {xs : List Value} (h : W.ownsRow base e size v k xs) (hb : base' ≤ base) : W.ownsRow base' e size v k xs := by
  refine ⟨h.1, ?_⟩
  rcases h.2 with h | ⟨g, cap, cur, h1, h2, h3⟩
  · exact .inl h
  · exact .inr ⟨g, cap, cur, h1, by omega, h3⟩
theorem row_cells {W : World} {base : Nat} {e : TypeId} {size : Nat} {v : Value} {k : Nat} {xs : List Value} (h : W.ownsRow base e size v k xs) {j : Nat} {o : Obj} (hj : v.ownBlock = some j) (ho : W.heap[j]? = some o) : o.isCells = true := by
  rcases h.2 with ⟨rfl, _⟩ | ⟨g, cap, cur, rfl, _, hgb, _⟩
  · simp [Value.ownBlock] at hj
  · have : g = j := by simpa [Value.ownBlock] using hj
    subst this
    rw [hgb] at ho; cases ho; rfl
theorem ApI.alloc {B0 : Nat} {w W : World} {pre : List (Nat × Nat)} (hB0 : B0 ≤ w.heap.size) (h : ApI B0 w pre W) (o : Obj) : ApI B0 w pre (W.alloc o) := by
  obtain ⟨hz, hb, v, hx, hr⟩ := h
  exact ⟨by simp; omega, hb.alloc (by omega) o, v, hx.alloc o, hr.alloc o⟩
theorem ApI.put {B0 : Nat} {w W : World} {pre : List (Nat × Nat)} (hB0 : B0 ≤ w.heap.size) (h : ApI B0 w pre W) {k : Nat} {o o' : Obj} (hk : w.heap.size + 1 ≤ k) (ho : W.heap[k]? = some o') (hc : o'.isCells = false) : ApI B0 w pre (W.putObj k o) := by
  obtain ⟨hz, hb, v, hx, hr⟩ := h
  exact ⟨by simpa [World.putObj] using hz, below_put hb (by omega) o, v, boxed_put hx (by omega) o, ownsRow_putObj hr o ho hc⟩
theorem ApI.set {B0 : Nat} {w W : World} {pre : List (Nat × Nat)} (h : ApI B0 w pre W) {Bn : Nat} (h0 : B0 ≤ Bn) (hB : Bn < w.heap.size) (u : Value) : ApI B0 w pre (W.setCell ⟨Bn, 0, none⟩ u) := by
  obtain ⟨hz, hb, v, hx, hr⟩ := h
  exact ⟨by simpa using hz, hb.setCell (p := ⟨Bn, 0, none⟩) h0 u, v, boxed_other hx (by omega) u, hr.kept (grownBy_setCell' W Bn u) (row_block hr (by omega))⟩
theorem power_info : (Try.prog.info? 64).map (fun i => (i.zero, i.size, i.bytes)) = some (some (.agg #[.int .i64 0, .int .i64 0]), 2, 16) := by kernel_rfl
theorem cell_two_new (w : World) (x y : Value) (t : TypeId) : ∀ j u, [x, y][j]? = some u → (w.alloc (.cells #[x, y] t)).cell? ((⟨w.heap.size, 0, none⟩ : Addr).add j) = some u := by
  intro j u h
  have hn := World.alloc_heap_new w (.cells #[x, y] t)
  match j, h with
  | 0, h => rw [show (⟨w.heap.size, 0, none⟩ : Addr).add 0 = ⟨w.heap.size, 0, none⟩ from rfl]; simp only [World.cell?]; rw [hn]; simpa using h
  | 1, h => rw [show (⟨w.heap.size, 0, none⟩ : Addr).add 1 = ⟨w.heap.size, 1, none⟩ from rfl]; simp only [World.cell?]; rw [hn]; simpa using h
theorem fac_len {b n : Nat} {l : List (Nat × Nat)} (h : M.FacL b n l) : l.length + 1 ≤ n := by
  induction l generalizing b n with
  | nil => have : n = 1 := h; simp; omega
  | cons q t ih =>
    obtain ⟨h1, h2, h3, m, h4, h5, h6⟩ := h
    have := ih h6
    obtain ⟨k, hk⟩ : ∃ k, q.2 = k + 1 := ⟨q.2 - 1, by omega⟩
    have h7 : 2 ≤ q.1 ^ q.2 := by
      rw [hk, Nat.pow_succ]
      exact Nat.le_trans h2.1 (Nat.le_mul_of_pos_left _ (Nat.pow_pos h2.pos))
    have h8 := Nat.mul_le_mul_right m h7
    simp; omega
set_option maxHeartbeats 2000000 in
theorem append_powers (N : Nat) (w : World) (h1 : 1 ≤ N) (h2 : N ≤ 1048576) (Bn B0 : Nat) (hB : Boxed w Bn 2 (.int .i64 N)) (h0 : B0 ≤ Bn) :
    Calls Try.prog 75 #[.slice none 0 0, .func (.func 60) #[] #[.pointer (some ⟨Bn, 0, none⟩)]] w fun e w' =>
      ∃ v, e = .returned v ∧ Below B0 w w' ∧ w'.ownsRow B0 64 2 v (M.fac N).length (flatP (M.fac N)) := by
  have hBlt := hB.lt
  refine (callsIn_wide (n := 0)).1 ?_
  refine callsIn_of_wp_marks Try.func75 rfl trivial ?_ rfl
  simp only [Try.ntmps75, List.size_toArray, List.length_cons, List.length_nil, Nat.reduceAdd, Nat.reduceSub, Array.replicate_succ, Array.replicate_zero, List.push_toArray, List.append_toArray, List.nil_append, List.cons_append]
  gi_wp2
  refine wp_range_box (gf := 60) rfl (enters_of Try.func60 (by kernel_rfl) rfl) (powers_iter N h1 h2) (hB.alloc _) rfl
    (fun pre W => ApI B0 w pre W)
    (fun pre W => False) ?st (fun _ _ _ _ _ _ _ _ h => h) ?i0
    (fun x B => { tmps := #[.slice none 0 0, .func (.func 60) #[] #[.pointer (some ⟨Bn, 0, none⟩)], .pointer (some ⟨w.heap.size, 0, none⟩), undef, .slice none 0 0, .pointer (some ⟨B, 0, none⟩),
      .func (.func 60) #[] #[.pointer (some ⟨Bn, 0, none⟩)], .agg #[.int .i64 x.1, .int .i64 x.2], undef, undef, undef, undef, undef], defers := [] })
    (fun x => .cells #[.int .i64 x.1, .int .i64 x.2] 64) ?assign ?body ?done (fun _ _ _ _ h => h.elim)
  case st =>
    simp only [World.size_alloc]
    exact ⟨fun pre W o h => h.alloc (by omega) o, fun pre W k o o' hk ho hc h => h.put (by omega) (by omega) ho hc, fun pre W v h => h.set h0 hBlt v⟩
  case i0 =>
    exact ⟨by simp, (Below.refl _ _).alloc (by omega) _, .slice none 0 0, Boxed.new _ _ _, rfl, .inl ⟨rfl, rfl⟩⟩
  case assign =>
    intro l x W K hK
    dsimp only [encP]
    gi_wp2
    exact hK
  case body =>
    rintro l B pre x W hI hpre hbox hBk
    simp only [World.size_alloc] at hBk
    obtain ⟨hz, hb, v, hx, hr⟩ := hI
    have c1 := hx.cell
    have f1 := hx.frozen
    have d0 : W.cell? ⟨B, 0, none⟩ = some (.int .i64 x.1) := by simp [World.cell?, hbox]
    have d1 : W.cell? ⟨B, 1, none⟩ = some (.int .i64 x.2) := by simp [World.cell?, hbox]
    have hl : pre.length + 1 ≤ 1048576 := by
      have := fac_len (M.fac_spec h1)
      have h3 := hpre.length_le
      simp at h3; omega
    obtain ⟨i0, hi, hz0, hz1, hz2⟩ := info_parts power_info
    have hu : Try.prog.underlying 65 = some (.slice 64) := by kernel_rfl
    have hne : some w.heap.size ≠ v.ownBlock := fun e => by
      rcases row_block hr (j := w.heap.size) (by omega) with h | h
      · rw [h] at e; cases e
      · exact h e.symm
    gi_wp2_with (first
      | (gi_at_builtin; refine wpListIn_append_own _ rfl _ _ 65 rfl (w.heap.size + 1) 64 i0 (.agg #[.int .i64 0, .int .i64 0]) 2 16 hu hi hz0 hz1 hz2 rfl (by decide) _ _ _ rfl (hr.alloc _) ⟨W.heap.size, 0, none⟩ 1 1 [.int .i64 x.1, .int .i64 x.2] rfl rfl (cell_two_new _ _ _ _) (by simp [Value.oneCell']) (Nat.le_trans hl (by decide)) (by omega) (by simp; omega) ?_; intro v' w3 hown' hg3 hnil3
         have hx3 : Boxed w3 w.heap.size 65 v := (hx.alloc _).kept hg3 hne
         have c3 := hx3.cell
         have f3 := hx3.frozen
         obtain ⟨g', cap', cur', rfl, hbase', hgb', hr1, hr2, hr3, hr4⟩ : ∃ g' cap' cur', v' = .slice (some ⟨g', 0, none⟩) (pre.length + 1) cap' ∧ w.heap.size + 1 ≤ g' ∧ w3.heap[g']? = some (.cells cur' 64 (0, 0)) ∧ pre.length + 1 ≤ cap' ∧ cap' ≤ maxLen ∧ cur'.size = cap' * 2 ∧ cur'.toList.take ((pre.length + 1) * 2) = flatP pre ++ [.int .i64 x.1, .int .i64 x.2] := by
           rcases hown'.2 with ⟨_, h0⟩ | h'
           · exact absurd h0 (by omega)
           · exact h'
         go_frame))
    have hg3' : (W.alloc (.cells #[.int .i64 x.1, .int .i64 x.2] 64)).grownBy w3 v.ownBlock := hg3
    have hz3 : W.heap.size + 1 ≤ w3.heap.size := by have := hg3'.size; simpa using this
    refine ⟨?_, fun u hu => ?_, ?_⟩
    · refine ((KeepsOthers.alloc W _).trans (KeepsOthers.of_grownBy hg3' fun j o hj ho => ?_)).trans (KeepsOthers.setCell _ _ _)
      exact row_cells (hr.alloc _) hj ho
    · refine boxed_other ((hu.alloc _).kept hg3' fun e => ?_) (by omega) _
      rcases row_block hr (j := Bn) (by omega) with h | h
      · rw [h] at e; cases e
      · exact h e.symm
    · refine ⟨by simp; omega, ((hb.alloc (by omega) _).grown hg3' (by simp; omega) fun k e => ?_).setCell (p := ⟨w.heap.size, 0, none⟩) (by simp; omega) _, _, hx3.set _, ?_⟩
      · have := (hr.lt k e).1; omega
      · have := hown'.kept (grownBy_setCell' w3 w.heap.size (.slice (some ⟨g', 0, none⟩) (pre.length + 1) cap')) (row_block hown' (by omega))
        rw [flatP_snoc, show (pre ++ [x]).length = pre.length + 1 by simp]
        exact this
  case done =>
    rintro D W hI hK hD
    simp only [World.size_alloc] at hD
    obtain ⟨hz, hb, v, hx, hr⟩ := hI
    have c1 := hx.cell
    have f1 := hx.frozen
    gi_wp2
    refine ⟨by simp, .inl ⟨_, _, rfl, run_takeDeferred hK, ?_⟩⟩
    refine ⟨v, ?_, v, rfl, below_put hb (by omega) _, ?_⟩
    · simp [results, Try.f75, go_sem]
    · have := ownsRow_putObj hr (.deferred none) hK rfl
      exact row_lower this (by omega)
theorem collect_powers (N : Nat) (w : World) (h1 : 1 ≤ N) (h2 : N ≤ 1048576) (Bn B0 : Nat) (hB : Boxed w Bn 2 (.int .i64 N)) (h0 : B0 ≤ Bn) :
    Calls Try.prog 64 #[.func (.func 60) #[] #[.pointer (some ⟨Bn, 0, none⟩)]] w fun e w' =>
      ∃ v, e = .returned v ∧ Below B0 w w' ∧ w'.ownsRow B0 64 2 v (M.fac N).length (flatP (M.fac N)) := by
  go_enter Try.func64, Try.ntmps64
  go_wp2_with fail
  refine (append_powers N _ h1 h2 Bn B0 hB h0).mono ?_
  rintro e w' ⟨v, rfl, hb, hr⟩
  have HR := Lib.hid hr
  have HB := Lib.hid hb
  clear hr hb
  go_wp2
  go_ret
  exact ⟨_, rfl, HB.out, HR.out⟩
theorem primes_Factor_nat (N : Nat) (w : World) (h1 : 1 ≤ N) (h2 : N ≤ 1048576) :
    Calls Try.prog 39 #[.int .i64 N] w fun e w' => ∃ v, e = .returned (.tuple #[v, .int .i64 0]) ∧ Below w.heap.size w w' ∧ w'.ownsRow w.heap.size 64 2 v (M.fac N).length (flatP (M.fac N)) := by
  have ho : primes_outB N = false := by simp [primes_outB]; omega
  go_enter Try.func39, Try.ntmps39
  go_wp2_with fail
  refine (primes_out _ _).mono ?_
  rintro e w' ⟨rfl, rfl⟩
  go_wp2_with fail
  refine (primes_powers _ _).mono ?_
  rintro e w' ⟨rfl, rfl⟩
  go_wp2_with fail
  refine (collect_powers N _ h1 h2 w.heap.size w.heap.size (Boxed.new _ _ _) (Nat.le_refl _)).mono ?_
  rintro e w' ⟨v, rfl, hb, hr⟩
  have HR := Lib.hid hr
  have HB := Lib.hid hb
  clear hr hb
  go_wp2
  go_ret2
  exact ⟨_, rfl, ((Below.refl _ _).alloc (Nat.le_refl _) _).trans HB.out, HR.out⟩
theorem primes_Factor (a : Int) (w : World) (h1 : 1 ≤ a) (h2 : a ≤ 1048576) :
    Calls Try.prog 39 #[.int .i64 a] w fun e w' => ∃ v, e = .returned (.tuple #[v, .int .i64 0]) ∧ Below w.heap.size w w' ∧ w'.ownsRow w.heap.size 64 2 v (M.fac a.toNat).length (flatP (M.fac a.toNat)) := by
  obtain ⟨N, rfl⟩ := Int.eq_ofNat_of_zero_le (show 0 ≤ a by omega)
  exact primes_Factor_nat N w (by omega) (by omega)
theorem primes_Factor_out (a : Int) (w : World) (h : a < 1 ∨ 1048576 < a) :
    Calls Try.prog 39 #[.int .i64 a] w fun e w' => e = .returned (.tuple #[.slice none 0 0, .int .i64 2]) ∧ w = w' := by
  have ho : primes_outB a = true := by simp [primes_outB]; omega
  clear h
  go_enter Try.func39, Try.ntmps39
  go_wp2_with fail
  refine (primes_out _ _).mono ?_
  rintro e w' ⟨rfl, rfl⟩
  go_wp2
  go_ret2
  exact ⟨rfl, rfl⟩
end Go.Proofs.Ytceocooppjfjjaa
