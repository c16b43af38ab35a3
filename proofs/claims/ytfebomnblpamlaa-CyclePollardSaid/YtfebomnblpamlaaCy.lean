/- Contracts of package cycle. -/
import Derived.Test.YtfebomnblpamlaaEu2
import Derived.Test.YtfebomnblpamlaaCyM
import Derived.Deep.RegionHeld3
namespace Go.Proofs.Ytfebomnblpamlaa
open Go.RowKit
set_option linter.unusedVariables false
set_option linter.unusedSimpArgs false
theorem mul_lim' {a b : Int} (h1 : 0 ≤ a) (h2 : a ≤ 1048576) (h3 : 0 ≤ b) (h4 : b ≤ 1048576) : 0 ≤ a * b ∧ a * b ≤ 1099511627776 :=
  ⟨Int.mul_nonneg h1 h3, by have := Int.mul_le_mul h2 h4 h3 (by omega : (0 : Int) ≤ 1048576); omega⟩
set_option maxHeartbeats 800000 in
theorem cycle_next (c n z : Int) (w : World) (h1 : 1 ≤ n) (h2 : n ≤ 1048576) (h3 : 0 ≤ z) (h4 : z < n) :
    Calls Try.prog 44 #[.agg #[.int .i64 (c % n), .int .i64 n], .int .i64 z] w fun e w' => e = .returned (.int .i64 (M.cyF c n z)) ∧ Below w.heap.size w w' := by
  have p := mul_lim' h3 (by omega) h3 (by omega)
  have q1 := Int.emod_nonneg (z * z) (show n ≠ 0 by omega)
  have q2 := Int.emod_lt_of_pos (z * z) (show 0 < n by omega)
  have q3 := Int.emod_nonneg c (show n ≠ 0 by omega)
  have q4 := Int.emod_lt_of_pos c (show 0 < n by omega)
  obtain ⟨d, hd⟩ : ∃ d, d = c % n := ⟨_, rfl⟩
  rw [← hd] at q3 q4 ⊢
  have HD := Lib.hid hd
  clear hd
  have f0 : (n == 0) = false := by simp; omega
  have f1 : IntKind.i64.wrap (z * z) = z * z := IntWalk.i64_in _ (by omega)
  have f2 : (z * z).tmod n = z * z % n := Int.tmod_eq_emod_of_nonneg p.1
  have f3 : IntKind.i64.wrap (z * z % n + d) = z * z % n + d := IntWalk.i64_in _ (by omega)
  have f4 : (z * z % n + d).tmod n = (z * z % n + d) % n := Int.tmod_eq_emod_of_nonneg (by omega)
  go_enter Try.func44, Try.ntmps44
  go_wp2
  go_quiet (fail)
  go_wp2
  go_ret
  exact ⟨ret_int (by rw [HD.out]; simp [M.cyF]), below_drewN ((Below.refl _ _).alloc (Nat.le_refl _) _) _⟩
set_option maxHeartbeats 800000 in
theorem cycle_open (c n x : Int) (w : World) (h1 : -2147483648 ≤ c) (h2 : c ≤ 2147483648) (h3 : -2147483648 ≤ x) (h4 : x ≤ 2147483648) (h5 : 1 ≤ n) (h6 : n ≤ 1048576) :
    Calls Try.prog 43 #[.int .i64 c, .int .i64 n, .int .i64 x] w fun e w' => e = .returned (.tuple #[.agg #[.int .i64 (c % n), .int .i64 n], .int .i64 (x % n), .int .i64 0]) ∧ Below w.heap.size w w' := by
  have i0 : ∀ w, (Instr.index 56 (.agg #[.int .i64 c, .int .i64 x]) (.int .i64 0)).run Try.prog w = .ok (.int .i64 c) w := fun _ => by kernel_rfl
  have i1 : ∀ w, (Instr.index 56 (.agg #[.int .i64 c, .int .i64 x]) (.int .i64 1)).run Try.prog w = .ok (.int .i64 x) w := fun _ => by kernel_rfl
  go_enter Try.func43, Try.ntmps43
  go_wp2
  go_loop [14] (fun i => ∃ k : Nat, k ≤ 2 ∧ i = .int .i64 k) (fun i => 2 - (intOf i).toNat)
  case atStart => exact ⟨0, by omega, rfl⟩
  case round =>
    obtain ⟨k, hk, rfl⟩ := hrel
    have hk : k = 0 ∨ k = 1 ∨ k = 2 := by omega
    rcases hk with rfl | rfl | rfl
    · go_wp2
      go_round
      case rel => exact ⟨1, by omega, rfl⟩
      case measure => simp [intOf]
    · go_wp2
      go_round
      case rel => exact ⟨2, by omega, rfl⟩
      case measure => simp [intOf]
    · go_wp2_with (first | (go_at_call 36; refine (euclid_Mod _ _ _ h5 (by omega)).mono ?_; rintro e w' ⟨rfl, rfl⟩))
      refine bodyPost_ret (v := .tuple #[.agg #[.int .i64 (c % n), .int .i64 n], .int .i64 (x % n), .int .i64 0]) (by simp [results, Try.results43, go_sem]) rfl ⟨rfl, ?_⟩
      repeat (first | exact (Below.refl _ _).alloc (Nat.le_refl _) _ | refine Below.setCell ?_ (by simp) _)
set_option maxHeartbeats 800000 in
theorem cycle_open_out (c n x : Int) (w : World) (h : farB c = true ∨ farB x = true ∨ n < 1 ∨ 1048576 < n) :
    Calls Try.prog 43 #[.int .i64 c, .int .i64 n, .int .i64 x] w fun e w' => e = .returned (.tuple #[.agg #[.int .i64 0, .int .i64 0], .int .i64 0, .int .i64 2]) ∧ Below w.heap.size w w' := by
  have i0 : ∀ w, (Instr.index 56 (.agg #[.int .i64 c, .int .i64 x]) (.int .i64 0)).run Try.prog w = .ok (.int .i64 c) w := fun _ => by kernel_rfl
  have i1 : ∀ w, (Instr.index 56 (.agg #[.int .i64 c, .int .i64 x]) (.int .i64 1)).run Try.prog w = .ok (.int .i64 x) w := fun _ => by kernel_rfl
  have hc : (c < -2147483648 ∨ (-2147483648 ≤ c ∧ 2147483648 < c)) ∨ (-2147483648 ≤ c ∧ c ≤ 2147483648 ∧ ((x < -2147483648 ∨ (-2147483648 ≤ x ∧ 2147483648 < x)) ∨ (-2147483648 ≤ x ∧ x ≤ 2147483648 ∧ (n < 1 ∨ (1 ≤ n ∧ 1048576 < n))))) := by
    by_cases e : farB c = true
    · have := farB_true e; omega
    · have := farB_false (by simpa using e : farB c = false)
      by_cases e2 : farB x = true
      · have := farB_true e2; omega
      · have := farB_false (by simpa using e2 : farB x = false)
        have := (h.resolve_left e).resolve_left e2
        omega
  clear h
  go_enter Try.func43, Try.ntmps43
  go_wp2
  go_loop [14] (fun i => ∃ k : Nat, k ≤ 2 ∧ i = .int .i64 k ∧ (1 ≤ k → -2147483648 ≤ c ∧ c ≤ 2147483648) ∧ (2 ≤ k → -2147483648 ≤ x ∧ x ≤ 2147483648)) (fun i => 2 - (intOf i).toNat)
  case atStart => exact ⟨0, by omega, rfl, fun h => by omega, fun h => by omega⟩
  case round =>
    obtain ⟨k, hk, rfl, g1, g2⟩ := hrel
    have hk : k = 0 ∨ k = 1 ∨ k = 2 := by omega
    rcases hk with rfl | rfl | rfl
    · clear g1 g2
      rcases hc with (hc | ⟨hc, hc'⟩) | ⟨d1, d2, hd⟩
      · go_wp2
        refine bodyPost_ret (v := .tuple #[.agg #[.int .i64 0, .int .i64 0], .int .i64 0, .int .i64 2]) (by simp [results, Try.results43, go_sem]) rfl ⟨rfl, ?_⟩
        exact (Below.refl _ _).alloc (Nat.le_refl _) _
      · go_wp2
        refine bodyPost_ret (v := .tuple #[.agg #[.int .i64 0, .int .i64 0], .int .i64 0, .int .i64 2]) (by simp [results, Try.results43, go_sem]) rfl ⟨rfl, ?_⟩
        exact (Below.refl _ _).alloc (Nat.le_refl _) _
      · clear hd
        go_wp2
        go_round
        case rel => exact ⟨1, by omega, rfl, fun _ => ⟨d1, d2⟩, fun h => by omega⟩
        case measure => simp [intOf]
    · have g := g1 (by omega)
      clear g1 g2
      have hc2 : ((x < -2147483648 ∨ (-2147483648 ≤ x ∧ 2147483648 < x)) ∨ (-2147483648 ≤ x ∧ x ≤ 2147483648)) := by omega
      clear hc
      rcases hc2 with (hc | ⟨hc, hc'⟩) | ⟨d1, d2⟩
      · go_wp2
        refine bodyPost_ret (v := .tuple #[.agg #[.int .i64 0, .int .i64 0], .int .i64 0, .int .i64 2]) (by simp [results, Try.results43, go_sem]) rfl ⟨rfl, ?_⟩
        exact (Below.refl _ _).alloc (Nat.le_refl _) _
      · go_wp2
        refine bodyPost_ret (v := .tuple #[.agg #[.int .i64 0, .int .i64 0], .int .i64 0, .int .i64 2]) (by simp [results, Try.results43, go_sem]) rfl ⟨rfl, ?_⟩
        exact (Below.refl _ _).alloc (Nat.le_refl _) _
      · go_wp2
        go_round
        case rel => exact ⟨2, by omega, rfl, fun _ => g, fun _ => ⟨d1, d2⟩⟩
        case measure => simp [intOf]
    · have ga := g1 (by omega)
      have gb := g2 (by omega)
      have hc2 : n < 1 ∨ (1 ≤ n ∧ 1048576 < n) := by omega
      clear g1 g2 hc
      rcases hc2 with hc | ⟨hc, hc'⟩
      all_goals
        go_wp2
        refine bodyPost_ret (v := .tuple #[.agg #[.int .i64 0, .int .i64 0], .int .i64 0, .int .i64 2]) (by simp [results, Try.results43, go_sem]) rfl ⟨rfl, ?_⟩
        exact (Below.refl _ _).alloc (Nat.le_refl _) _
set_option maxHeartbeats 800000 in
theorem cycle_after (c n z : Int) (k : Nat) (w : World) (h1 : 1 ≤ n) (h2 : n ≤ 1048576) (h3 : 0 ≤ z) (h4 : z < n) (h5 : k ≤ 4611686018427387904) :
    Calls Try.prog 45 #[.agg #[.int .i64 (c % n), .int .i64 n], .int .i64 z, .int .i64 k] w fun e w' => e = .returned (.int .i64 (M.it c n k z)) ∧ Below w.heap.size w w' := by
  go_enter Try.func45, Try.ntmps45
  go_wp2
  go_loopw [1, 8] (fun x i wr => ∃ I : Nat, I ≤ k ∧ i = .int .i64 I ∧ x = .int .i64 (M.it c n I z) ∧ wr.cell? ⟨w.heap.size, 0, none⟩ = some (.int .i64 (c % n)) ∧ wr.cell? ⟨w.heap.size, 1, none⟩ = some (.int .i64 n) ∧ w.heap.size < wr.heap.size ∧ Below w.heap.size w wr)
    (fun _ i _ => k - (intOf i).toNat)
  case atStart => exact ⟨0, by omega, rfl, rfl, by simp, by simp, by simp, (Below.refl _ _).alloc (Nat.le_refl _) _⟩
  case round =>
    obtain ⟨I, hI, rfl, rfl, k0, k1, hz, hbel⟩ := hrel
    have hb := M.it_bd (c := c) (n := n) (x := z) (by omega) h3 h4 I
    obtain ⟨y, hy⟩ : ∃ y, y = M.it c n I z := ⟨_, rfl⟩
    rw [← hy] at hb ⊢
    have HY := Lib.hid hy
    clear hy
    by_cases hlt : I < k
    · go_wp2_with fail
      refine (cycle_next _ _ _ _ h1 h2 hb.1 hb.2).mono ?_
      rintro e w2 ⟨rfl, hb2⟩
      have z2 := hb2.size
      have k0' := kept hb2 k0 hz
      have k1' := kept hb2 k1 hz
      go_wp2
      go_roundw
      case rel => exact ⟨I + 1, by omega, by go_num, by rw [HY.out]; rfl, k0', k1', by omega, hbel.trans (hb2.mono (by omega))⟩
      case measure => simp [intOf]; omega
    · have e : I = k := by omega
      have EK := Lib.hid e
      clear e
      go_wp2
      go_ret
      exact ⟨ret_int (by rw [HY.out, EK.out]), hbel⟩
def CyclePost (c n x : Int) (w : World) (e : Ending) (w' : World) : Prop := ∃ t s : Nat, e = .returned (.tuple #[.int .i64 t, .int .i64 s, .int .i64 0]) ∧ M.Cyc c n (x % n) t s ∧ Below w.heap.size w w'
set_option maxHeartbeats 1600000 in
theorem cycle_Cycle (c n x : Int) (w : World) (h1 : -2147483648 ≤ c) (h2 : c ≤ 2147483648) (h3 : -2147483648 ≤ x) (h4 : x ≤ 2147483648) (h5 : 1 ≤ n) (h6 : n ≤ 1048576) :
    Calls Try.prog 29 #[.int .i64 c, .int .i64 n, .int .i64 x] w (CyclePost c n x w) := by
  have m1 := Int.emod_nonneg x (show n ≠ 0 by omega)
  have m2 := Int.emod_lt_of_pos x (show 0 < n by omega)
  obtain ⟨x0, hx0⟩ : ∃ x0, x0 = x % n := ⟨_, rfl⟩
  rw [← hx0] at m1 m2
  have HX := Lib.hid hx0
  clear hx0
  have bd := M.it_bd (c := c) (show 0 < n by omega) m1 m2
  have BD := Lib.hid bd
  clear bd
  go_enter Try.func29, Try.ntmps29
  go_wp2_with fail
  refine (cycle_open _ _ _ _ h1 h2 h3 h4 h5 h6).mono ?_
  rintro e w1 ⟨rfl, hb1⟩
  rw [← HX.out]
  go_wp2_with fail
  refine (cycle_next _ _ _ _ h5 h6 m1 m2).mono ?_
  rintro e w2 ⟨rfl, hb2⟩
  have z1 := hb1.size
  have z2 := hb2.size
  simp at z2
  have k0 := kept hb2 (b := w1.heap.size) (o := 0) (v := .int .i64 (c % n)) (by simp) (by simp)
  have k1 := kept hb2 (b := w1.heap.size) (o := 1) (v := .int .i64 n) (by simp) (by simp)
  have hbl : Below w.heap.size w w2 := below_two (hb1.alloc z1 _) hb2
  obtain ⟨f0, hf0⟩ : ∃ f0, f0 = M.cyF c n x0 := ⟨_, rfl⟩
  rw [← hf0]
  have HF0 := Lib.hid hf0
  clear hf0 hb1 hb2
  go_wp2_with fail
  go_loopw [11, 12, 13, 14] (fun l s a b wr => ∃ (i S : Nat) (A B : Int), l = .int .i64 (i + 1) ∧ s = .int .i64 S ∧ a = .int .i64 A ∧ b = .int .i64 B ∧ A = M.it c n i x0 ∧ B = M.it c n (i + S) x0 ∧ M.Brent c n x0 i S ∧
      wr.cell? ⟨w1.heap.size, 0, none⟩ = some (.int .i64 (c % n)) ∧ wr.cell? ⟨w1.heap.size, 1, none⟩ = some (.int .i64 n) ∧ w1.heap.size < wr.heap.size ∧ Below w.heap.size w wr)
    (fun l s _ _ _ => 6 * n.toNat + 10 - (intOf l + intOf s).toNat)
  case atStart => exact ⟨0, 1, x0, f0, rfl, rfl, rfl, rfl, rfl, HF0.out, M.Brent.init, k0, k1, by omega, hbl⟩
  case round =>
    clear k0 k1 hbl
    obtain ⟨i, S, A, B, rfl, rfl, rfl, rfl, hA, hB, hbr, k0, k1, hz, hbel⟩ := hrel
    have bA := BD.out i
    have bB := BD.out (i + S)
    rw [← hA] at bA
    rw [← hB] at bB
    have HA := Lib.hid hA
    have HB := Lib.hid hB
    clear hA hB
    have ⟨r1, r2, r3, _⟩ := hbr
    by_cases hab : A = B
    · -- the circle is found
      have HAB := Lib.hid hab
      have c1 : (A == B) = true := by simpa using hab
      clear hab
      go_wp2_with fail
      refine (cycle_after _ _ _ S _ h5 h6 m1 m2 (by omega)).mono ?_
      rintro e w3 ⟨rfl, hb3⟩
      have z3 := hb3.size
      have k0' := kept hb3 k0 hz
      have k1' := kept hb3 k1 hz
      have hbl : Below w.heap.size w w3 := hbel.trans (hb3.mono (by omega))
      clear k0 k1 hbel hb3
      obtain ⟨g0, hg0⟩ : ∃ g0, g0 = M.it c n S x0 := ⟨_, rfl⟩
      rw [← hg0]
      have HG0 := Lib.hid hg0
      clear hg0
      have HBR := Lib.hid hbr
      have HEQ : Hid (M.it c n (i + S) x0 = M.it c n i x0) := by have := HAB.out; rw [HA.out, HB.out] at this; exact this.symm
      clear hbr
      go_wp2_with fail
      go_loopw [15, 16, 17] (fun l a b wr => ∃ (t : Nat) (A' B' : Int), l = .int .i64 t ∧ a = .int .i64 A' ∧ b = .int .i64 B' ∧ A' = M.it c n t x0 ∧ B' = M.it c n (t + S) x0 ∧ t ≤ i ∧ (∀ j, j < t → M.it c n j x0 ≠ M.it c n (j + S) x0) ∧
          wr.cell? ⟨w1.heap.size, 0, none⟩ = some (.int .i64 (c % n)) ∧ wr.cell? ⟨w1.heap.size, 1, none⟩ = some (.int .i64 n) ∧ w1.heap.size < wr.heap.size ∧ Below w.heap.size w wr)
        (fun l _ _ _ => i - (intOf l).toNat)
      case atStart => exact ⟨0, x0, g0, rfl, rfl, rfl, rfl, by rw [HG0.out]; simp, by omega, fun j hj => by omega, k0', k1', by omega, hbl⟩
      case round =>
        clear k0' k1' hbl
        obtain ⟨t, A', B', rfl, rfl, rfl, hA, hB, hti, hall, k0, k1, hz, hbel⟩ := hrel
        have bA' := BD.out t
        have bB' := BD.out (t + S)
        rw [← hA] at bA'
        rw [← hB] at bB'
        have HA' := Lib.hid hA
        have HB' := Lib.hid hB
        have HALL := Lib.hid hall
        clear hA hB hall
        by_cases hab : A' = B'
        · have HAB' := Lib.hid hab
          have c2 : (A' == B') = true := by simpa using hab
          clear hab
          go_wp2_with fail
          refine bodyPost_ret (v := .tuple #[.int .i64 t, .int .i64 S, .int .i64 0]) (by simp [results, Try.results29, go_sem]) rfl ?_
          refine ⟨t, S, rfl, ?_, hbel⟩
          rw [← HX.out]
          exact HBR.out.fin HEQ.out (by rw [← HA'.out, ← HB'.out]; exact HAB'.out) hti HALL.out
        · have c2 : (A' == B') = false := by simpa using hab
          have HNE : Hid (A' ≠ B') := hab
          clear hab
          have hlt : t < i := by
            apply Classical.byContradiction
            intro hge
            have e : t = i := by omega
            apply HNE.out
            rw [HA'.out, HB'.out, e, HEQ.out]
          obtain ⟨a0, a1⟩ := bA'
          obtain ⟨b0, b1⟩ := bB'
          go_wp2_with fail
          go_region_held3 (fun w' => w'.cell? ⟨w1.heap.size, 0, none⟩ = some (.int .i64 (c % n)) ∧ w'.cell? ⟨w1.heap.size, 1, none⟩ = some (.int .i64 n) ∧ w1.heap.size < w'.heap.size ∧ Below w.heap.size w w')
            ((go_split_ands; refine ⟨?_, ?_, ?_, ?_⟩ <;> first | assumption | exact kept hb4 (by assumption) (by assumption) | (exact Nat.lt_of_lt_of_le (by assumption) hb4.size) | (exact Below.trans (by assumption) (hb4.mono (Below.size (by assumption)))) | (simp [*]; done) | exact hz | exact hbel.drew))
            (first | (go_at_call 44; refine (cycle_next _ _ _ _ h5 h6 (by omega) (by omega)).mono ?_; rintro e w4 ⟨rfl, hb4⟩))
          go_split_ands
          go_wp2
          go_roundw
          case rel => exact ⟨t + 1, _, _, by go_num, rfl, rfl, by rw [HA'.out]; rfl, by rw [HB'.out, show t + 1 + S = t + S + 1 by omega]; rfl, by omega, fun j hj => by
            by_cases e : j = t
            · subst e; rw [← HA'.out, ← HB'.out]; exact HNE.out
            · exact HALL.out j (by omega), by assumption, by assumption, by assumption, by assumption⟩
          case measure => simp [intOf]; omega
    · have c1 : (A == B) = false := by simpa using hab
      have HNE : Hid (M.it c n (i + S) x0 ≠ M.it c n i x0) := fun e => hab (by rw [HA.out, HB.out]; exact e.symm)
      clear hab
      by_cases hS : S = i + 1
      · subst hS
        have HJ := Lib.hid (hbr.jump (by omega) m1 m2 HNE.out)
        have ⟨_, _, r6, _⟩ := hbr.jump (by omega) m1 m2 HNE.out
        go_wp2_with fail
        refine (cycle_next _ _ _ _ h5 h6 bB.1 bB.2).mono ?_
        rintro e w3 ⟨rfl, hb3⟩
        have z3 := hb3.size
        have k0' := kept hb3 k0 hz
        have k1' := kept hb3 k1 hz
        go_wp2
        go_roundw
        case rel => exact ⟨i + (i + 1), 1, B, M.cyF c n B, by go_num, rfl, rfl, rfl, HB.out, by rw [HB.out]; rfl, HJ.out, k0', k1', by omega, hbel.trans (hb3.mono (by omega))⟩
        case measure => simp [intOf]; omega
      · have HJ := Lib.hid (hbr.more HNE.out hS)
        have c2 : ((S : Int) == (i : Int) + 1) = false := by simp; omega
        clear hS
        go_wp2_with fail
        refine (cycle_next _ _ _ _ h5 h6 bB.1 bB.2).mono ?_
        rintro e w3 ⟨rfl, hb3⟩
        have z3 := hb3.size
        have k0' := kept hb3 k0 hz
        have k1' := kept hb3 k1 hz
        go_wp2
        go_roundw
        case rel => exact ⟨i, S + 1, A, M.cyF c n B, rfl, by go_num, rfl, rfl, HA.out, by rw [HB.out]; rfl, HJ.out, k0', k1', by omega, hbel.trans (hb3.mono (by omega))⟩
        case measure => simp [intOf]; omega
set_option maxHeartbeats 800000 in
theorem cycle_Cycle_out (c n x : Int) (w : World) (h : farB c = true ∨ farB x = true ∨ n < 1 ∨ 1048576 < n) :
    Calls Try.prog 29 #[.int .i64 c, .int .i64 n, .int .i64 x] w fun e w' => e = .returned (.tuple #[.int .i64 0, .int .i64 0, .int .i64 2]) ∧ Below w.heap.size w w' := by
  have H := Lib.hid h
  clear h
  go_enter Try.func29, Try.ntmps29
  go_wp2_with fail
  refine (cycle_open_out _ _ _ _ H.out).mono ?_
  rintro e w1 ⟨rfl, hb1⟩
  have z1 := hb1.size
  go_wp2_with fail
  refine bodyPost_ret (v := .tuple #[.int .i64 0, .int .i64 0, .int .i64 2]) (by simp [results, Try.results29, go_sem]) rfl ?_
  exact ⟨rfl, hb1.alloc z1 _⟩
def SplitPost (c n x : Int) (w : World) (e : Ending) (w' : World) : Prop := ∃ i g : Nat, e = .returned (.tuple #[.int .i64 i, .int .i64 g, .int .i64 0]) ∧ 1 ≤ i ∧ 1 < g ∧ (g : Int) ∣ n ∧ (∀ j, 1 ≤ j → M.it c n j (x % n) = M.it c n (2 * j) (x % n) → i ≤ j) ∧ Below w.heap.size w w'
set_option maxHeartbeats 1600000 in
theorem cycle_Split (c n x : Int) (w : World) (h1 : -2147483648 ≤ c) (h2 : c ≤ 2147483648) (h3 : -2147483648 ≤ x) (h4 : x ≤ 2147483648) (h5 : 2 ≤ n) (h6 : n ≤ 1048576) :
    Calls Try.prog 31 #[.int .i64 c, .int .i64 n, .int .i64 x] w (SplitPost c n x w) := by
  have m1 := Int.emod_nonneg x (show n ≠ 0 by omega)
  have m2 := Int.emod_lt_of_pos x (show 0 < n by omega)
  obtain ⟨x0, hx0⟩ : ∃ x0, x0 = x % n := ⟨_, rfl⟩
  rw [← hx0] at m1 m2
  have HX := Lib.hid hx0
  clear hx0
  have BD := Lib.hid (M.it_bd (c := c) (show 0 < n by omega) m1 m2)
  obtain ⟨a, p, hp, hap, he⟩ := M.exists_rep (c := c) (show 0 < n by omega) m1 m2
  obtain ⟨j0, hj1, hj2, hj3⟩ := M.meet_of_rep hp he
  have HJ := Lib.hid hj3
  have hj4 : j0 ≤ n.toNat := by omega
  clear hj3 he hap hp hj2
  have n1 : 1 ≤ n := by omega
  have nn1 : (n == 1) = false := by simp; omega
  go_enter Try.func31, Try.ntmps31
  go_wp2_with fail
  refine (cycle_open _ _ _ _ h1 h2 h3 h4 n1 h6).mono ?_
  rintro e w1 ⟨rfl, hb1⟩
  rw [← HX.out]
  have z1 := hb1.size
  have k0 : (w1.alloc (.cells #[.int .i64 (c % n), .int .i64 n] 51)).cell? ⟨w1.heap.size, 0, none⟩ = some (.int .i64 (c % n)) := by simp
  have k1 : (w1.alloc (.cells #[.int .i64 (c % n), .int .i64 n] 51)).cell? ⟨w1.heap.size, 1, none⟩ = some (.int .i64 n) := by simp
  have k2 : w1.heap.size < (w1.alloc (.cells #[.int .i64 (c % n), .int .i64 n] 51)).heap.size := by simp
  have hbl := hb1.alloc z1 (.cells #[.int .i64 (c % n), .int .i64 n] 51)
  have K0 := Lib.hid k0
  have K1 := Lib.hid k1
  have K2 := Lib.hid k2
  clear k0 k1 k2 hb1
  go_wp2_with fail
  go_loopw [11, 12, 13] (fun sl fa i wr => ∃ (I : Nat) (A B : Int), i = .int .i64 (I + 1) ∧ sl = .int .i64 A ∧ fa = .int .i64 B ∧ A = M.it c n I x0 ∧ B = M.it c n (2 * I) x0 ∧ (∀ j, 1 ≤ j → j < I + 1 → M.it c n j x0 ≠ M.it c n (2 * j) x0) ∧
      wr.cell? ⟨w1.heap.size, 0, none⟩ = some (.int .i64 (c % n)) ∧ wr.cell? ⟨w1.heap.size, 1, none⟩ = some (.int .i64 n) ∧ w1.heap.size < wr.heap.size ∧ Below w.heap.size w wr)
    (fun _ _ i _ => n.toNat + 2 - (intOf i).toNat)
  case atStart => exact ⟨0, x0, x0, rfl, rfl, rfl, rfl, rfl, fun j h1 h2 => by omega, K0.out, K1.out, K2.out, hbl⟩
  case round =>
    clear hbl
    obtain ⟨I, A, B, rfl, rfl, rfl, hA, hB, hall, k0, k1, hz, hbel⟩ := hrel
    have ⟨a0, a1⟩ := BD.out I
    have ⟨b0, b1⟩ := BD.out (2 * I)
    rw [← hA] at a0 a1
    rw [← hB] at b0 b1
    have HA := Lib.hid hA
    have HB := Lib.hid hB
    have HALL := Lib.hid hall
    have hIj : I + 1 ≤ j0 := by
      apply Classical.byContradiction
      intro hlt
      exact hall j0 hj1 (by omega) HJ.out
    clear hA hB hall
    have ⟨q0, q1⟩ := M.cyF_bd c B (show 0 < n by omega)
    have ⟨s0, s1⟩ := M.cyF_bd c A (show 0 < n by omega)
    have ⟨f0, f1⟩ := M.cyF_bd c (M.cyF c n B) (show 0 < n by omega)
    go_wp2_with fail
    go_region_held3 (fun w' => w'.cell? ⟨w1.heap.size, 0, none⟩ = some (.int .i64 (c % n)) ∧ w'.cell? ⟨w1.heap.size, 1, none⟩ = some (.int .i64 n) ∧ w1.heap.size < w'.heap.size ∧ Below w.heap.size w w')
      ((go_split_ands; refine ⟨?_, ?_, ?_, ?_⟩ <;> first | assumption | exact kept hb4 (by assumption) (by assumption) | (exact Nat.lt_of_lt_of_le (by assumption) hb4.size) | (exact Below.trans (by assumption) (hb4.mono (Below.size (by assumption)))) | (simp [*]; done) | exact hz | exact hbel.drew))
      (first | (go_at_call 44; refine (cycle_next _ _ _ _ n1 h6 (by omega) (by omega)).mono ?_; rintro e w4 ⟨rfl, hb4⟩))
    go_split_ands
    have k0' : w4.cell? ⟨w1.heap.size, 0, none⟩ = some (.int .i64 (c % n)) := by assumption
    have k1' : w4.cell? ⟨w1.heap.size, 1, none⟩ = some (.int .i64 n) := by assumption
    have hz' : w1.heap.size < w4.heap.size := by assumption
    have hbel' : Below w.heap.size w w4 := by assumption
    obtain ⟨u, hu⟩ : ∃ u, u = M.cyF c n A := ⟨_, rfl⟩
    obtain ⟨v, hv⟩ : ∃ v, v = M.cyF c n (M.cyF c n B) := ⟨_, rfl⟩
    rw [← hu, ← hv]
    rw [← hu] at s0 s1
    rw [← hv] at f0 f1
    have EU : Hid (u = M.it c n (I + 1) x0) := by rw [hu, HA.out]; rfl
    have EV : Hid (v = M.it c n (2 * (I + 1)) x0) := by rw [hv, HB.out]; rfl
    have hgp : 1 ≤ (Int.gcd (u - v) n : Int) := by
      have := Int.gcd_pos_of_ne_zero_right (u - v) (show n ≠ 0 by omega)
      omega
    have hgd : (Int.gcd (u - v) n : Int) ∣ n := Int.gcd_dvd_right _ _
    have hge : u = v → (Int.gcd (u - v) n : Int) = n := fun e => by subst e; simp; omega
    obtain ⟨g, hg⟩ : ∃ g, g = Int.gcd (u - v) n := ⟨_, rfl⟩
    rw [← hg] at hgp hgd hge
    have HG := Lib.hid hg
    have HD := Lib.hid hgd
    have HE := Lib.hid hge
    clear hu hv hg hgd hge k0 k1 hz hbel q0 q1
    go_wp2_with fail
    refine (euclid_Gcd _ _ _ (by omega) (by omega) (by omega) (by omega)).mono ?_
    rintro e w5 ⟨rfl, hb5⟩
    rw [← HG.out]
    have z5 := hb5.size
    have k0 := kept hb5 k0' hz'
    have k1 := kept hb5 k1' hz'
    by_cases hg1 : 1 < g
    · go_wp2_with fail
      refine bodyPost_ret (v := .tuple #[.int .i64 ((I + 1 : Nat) : Int), .int .i64 g, .int .i64 0]) (by simp [results, Try.results31, go_sem]) rfl ?_
      refine ⟨I + 1, g, rfl, by omega, hg1, HD.out, fun j k1 k2 => ?_, hbel'.trans (hb5.mono (by have := hbel'.size; omega))⟩
      rw [← HX.out] at k2
      apply Classical.byContradiction
      intro hlt
      exact HALL.out j k1 (by omega) k2
    · have HNE : Hid (u ≠ v) := fun e => by have := HE.out e; omega
      go_wp2_with fail
      go_roundw
      case rel => exact ⟨I + 1, u, v, by go_num, rfl, rfl, EU.out, EV.out, fun j k1 k2 => by
        by_cases e : j = I + 1
        · subst e; rw [← EU.out, ← EV.out]; exact HNE.out
        · exact HALL.out j k1 (by omega), k0, k1, by omega, hbel'.trans (hb5.mono (by have := hbel'.size; omega))⟩
      case measure => simp [intOf]; omega
set_option maxHeartbeats 800000 in
theorem cycle_Split_out (c n x : Int) (w : World) (h : farB c = true ∨ farB x = true ∨ n < 1 ∨ 1048576 < n) :
    Calls Try.prog 31 #[.int .i64 c, .int .i64 n, .int .i64 x] w fun e w' => e = .returned (.tuple #[.int .i64 0, .int .i64 0, .int .i64 2]) ∧ Below w.heap.size w w' := by
  have H := Lib.hid h
  clear h
  go_enter Try.func31, Try.ntmps31
  go_wp2_with fail
  refine (cycle_open_out _ _ _ _ H.out).mono ?_
  rintro e w1 ⟨rfl, hb1⟩
  have z1 := hb1.size
  go_wp2_with fail
  refine bodyPost_ret (v := .tuple #[.int .i64 0, .int .i64 0, .int .i64 2]) (by simp [results, Try.results31, go_sem]) rfl ?_
  exact ⟨rfl, hb1.alloc z1 _⟩
theorem cycle_Split_one (c x : Int) (w : World) (h1 : -2147483648 ≤ c) (h2 : c ≤ 2147483648) (h3 : -2147483648 ≤ x) (h4 : x ≤ 2147483648) :
    Calls Try.prog 31 #[.int .i64 c, .int .i64 1, .int .i64 x] w fun e w' => e = .returned (.tuple #[.int .i64 0, .int .i64 0, .int .i64 5]) ∧ Below w.heap.size w w' := by
  go_enter Try.func31, Try.ntmps31
  go_wp2_with fail
  refine (cycle_open _ _ _ _ h1 h2 h3 h4 (by omega) (by omega)).mono ?_
  rintro e w1 ⟨rfl, hb1⟩
  have z1 := hb1.size
  go_wp2_with fail
  refine bodyPost_ret (v := .tuple #[.int .i64 0, .int .i64 0, .int .i64 5]) (by simp [results, Try.results31, go_sem]) rfl ?_
  exact ⟨rfl, hb1.alloc z1 _⟩
end Go.Proofs.Ytfebomnblpamlaa
