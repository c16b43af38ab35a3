/- The contracts of crt.join. -/
import Derived.Test.YtceocooppjfjjaaCrtM
import Derived.Test.YtceocooppjfjjaaIsRs
import Derived.BigQuiet
import Derived.Deep.QuietTactic
namespace Go.Proofs.Ytceocooppjfjjaa
open Go.RowKit
set_option linter.unusedVariables false
set_option linter.unusedSimpArgs false
theorem lcm_eq_mul {a b : Int} (ha : 1 ≤ a) (hb : 1 ≤ b) : a * (b / (Int.gcd a b : Int)) = (Int.lcm a b : Int) ∧ 1 ≤ b / (Int.gcd a b : Int) ∧ b / (Int.gcd a b : Int) ≤ b ∧ 1 ≤ (Int.gcd a b : Int) ∧ (Int.gcd a b : Int) ≤ b := by
  have g1 : 1 ≤ (Int.gcd a b : Int) := by
    have : Int.gcd a b ≠ 0 := by intro e; have := Int.gcd_eq_zero_iff.1 e; omega
    omega
  have e2 : (Int.gcd a b : Int) * (b / (Int.gcd a b : Int)) = b := Int.mul_ediv_cancel' (Int.gcd_dvd_right a b)
  have hle := Int.le_of_dvd (by omega) (Int.gcd_dvd_right a b)
  obtain ⟨g, hg⟩ : ∃ g : Int, (Int.gcd a b : Int) = g := ⟨_, rfl⟩
  have h' : g * (Int.lcm a b : Int) = a * b := by
    rw [← hg, ← Int.natCast_mul, Int.gcd_mul_lcm, Int.natCast_mul, Int.natAbs_of_nonneg (by omega), Int.natAbs_of_nonneg (by omega)]
  rw [hg] at g1 e2 hle ⊢
  obtain ⟨n, hn⟩ : ∃ n, b / g = n := ⟨_, rfl⟩
  rw [hn] at e2 ⊢
  have n1 : 1 ≤ n := by
    rcases Int.lt_or_le n 1 with h | h
    · have := Int.mul_le_mul_of_nonneg_left (show n ≤ 0 by omega) (show 0 ≤ g by omega)
      omega
    · exact h
  have n2 : n ≤ b := by
    have := Int.mul_le_mul_of_nonneg_right g1 (show 0 ≤ n by omega)
    omega
  refine ⟨Int.eq_of_mul_eq_mul_left (show g ≠ 0 by omega) ?_, n1, n2, g1, hle⟩
  rw [h', ← e2]; grind
set_option maxRecDepth 100000 in
set_option maxHeartbeats 1600000 in
theorem crt_join_no (A1 M1 A2 M2 : Int) (w : World) (a1 : 0 ≤ A1) (a2 : A1 ≤ 2147483648) (m1 : 1 ≤ M1) (m2 : M1 ≤ 2147483648) (b1 : 0 ≤ A2) (b2 : A2 ≤ 2147483648) (n1 : 1 ≤ M2) (n2 : M2 ≤ 1048576) (hd : ¬ (Int.gcd M1 M2 : Int) ∣ A2 - A1) :
    Calls Try.prog 53 #[.agg #[.int .i64 A1, .int .i64 M1], .agg #[.int .i64 A2, .int .i64 M2]] w fun e w' => e = .returned (.tuple #[.agg #[.int .i64 0, .int .i64 0], .bool false]) ∧ Below w.heap.size w w' := by
  have HB := Lib.hid fun w => euclid_Bezout M1 M2 w (by omega) m2 (by omega) (by omega)
  obtain ⟨_, _, _, g1, g2⟩ := lcm_eq_mul m1 n1
  have q1 : ((A2 - A1).tmod (Int.gcd M1 M2 : Int) == 0) = false := by
    rw [beq_eq_false_iff_ne]; exact fun e => hd (Int.dvd_of_tmod_eq_zero e)
  obtain ⟨g, hg⟩ : ∃ g : Nat, Int.gcd M1 M2 = g := ⟨_, rfl⟩
  unfold BezPost at HB
  rw [hg] at HB g1 g2 q1
  clear hd hg
  go_enter Try.func53, Try.ntmps53
  go_wp2_with fail
  refine (HB.out _).mono ?_
  rintro e w1 ⟨x, y, rfl, _, hx, hx2, hb1⟩
  have z1 := hb1.size
  simp at z1
  have k0 := kept hb1 (b := w.heap.size) (o := 0) (v := .int .i64 A1) (by simp [go_sem]) (by simp [go_sem] <;> omega)
  have k1 := kept hb1 (b := w.heap.size) (o := 1) (v := .int .i64 M1) (by simp [go_sem]) (by simp [go_sem] <;> omega)
  have l0 := kept hb1 (b := w.heap.size + 1) (o := 0) (v := .int .i64 A2) (by simp [go_sem]) (by simp [go_sem] <;> omega)
  have l1 := kept hb1 (b := w.heap.size + 1) (o := 1) (v := .int .i64 M2) (by simp [go_sem]) (by simp [go_sem] <;> omega)
  have r0 := kept hb1 (b := w.heap.size + 1 + 1) (o := 0) (v := .int .i64 0) (by simp [go_sem]) (by simp [go_sem] <;> omega)
  have r1 := kept hb1 (b := w.heap.size + 1 + 1) (o := 1) (v := .int .i64 0) (by simp [go_sem]) (by simp [go_sem] <;> omega)
  have s0 := (hb1.frozen (p := ⟨w.heap.size + 1 + 1, 0, none⟩) (by simp [go_sem] <;> omega)).trans (show _ = false by simp [go_sem])
  have s1 := (hb1.frozen (p := ⟨w.heap.size + 1 + 1, 1, none⟩) (by simp [go_sem] <;> omega)).trans (show _ = false by simp [go_sem])
  have hB := below_two ((((Below.refl w.heap.size w).alloc (Nat.le_refl _) _).alloc (by simp) _).alloc (by simp; omega) _) hb1
  clear hb1 hx
  go_wp2
  refine bodyPost_ret (v := .tuple #[.agg #[.int .i64 0, .int .i64 0], .bool false]) ?_ rfl ?_
  · simp [results, Try.f53, go_sem, r0, r1]
  · exact ⟨rfl, (hB.setCell (by simp; omega) _).setCell (by simp; omega) _⟩
set_option maxRecDepth 100000 in
set_option maxHeartbeats 3200000 in
theorem crt_join_yes (A1 M1 A2 M2 : Int) (w : World) (a1 : 0 ≤ A1) (a2 : A1 ≤ 2147483648) (m1 : 1 ≤ M1) (m2 : M1 ≤ 2147483648) (b1 : 0 ≤ A2) (b2 : A2 ≤ 2147483648) (n1 : 1 ≤ M2) (n2 : M2 ≤ 1048576) (hd : (Int.gcd M1 M2 : Int) ∣ A2 - A1) (hl : (Int.lcm M1 M2 : Int) ≤ 2147483648) :
    Calls Try.prog 53 #[.agg #[.int .i64 A1, .int .i64 M1], .agg #[.int .i64 A2, .int .i64 M2]] w fun e w' => (∃ A' : Int, e = .returned (.tuple #[.agg #[.int .i64 A', .int .i64 (Int.lcm M1 M2 : Int)], .bool true]) ∧ 0 ≤ A' ∧ A' < (Int.lcm M1 M2 : Int) ∧ M1 ∣ A' - A1 ∧ M2 ∣ A' - A2) ∧ Below w.heap.size w w' := by
  have HB := Lib.hid fun w => euclid_Bezout M1 M2 w (by omega) m2 (by omega) (by omega)
  obtain ⟨hm, h1, h2, g1, g2⟩ := lcm_eq_mul m1 n1
  have HJ := Lib.hid fun (x y : Int) (h : x * M1 + y * M2 = (Int.gcd M1 M2 : Int)) => join_law (A1 := A1) (A2 := A2) m1 n1 rfl h hd rfl rfl rfl
  rw [hm] at HJ
  obtain ⟨q, hq⟩ := hd
  have hqd : (A2 - A1) / (Int.gcd M1 M2 : Int) = q := by rw [hq]; exact Int.mul_ediv_cancel_left q (by omega)
  rw [hqd] at HJ
  have ft : (A2 - A1).tdiv (Int.gcd M1 M2 : Int) = q := by rw [hq]; exact Int.mul_tdiv_cancel_left q (by omega)
  have fm : ((A2 - A1).tmod (Int.gcd M1 M2 : Int) == 0) = true := by rw [hq]; simp
  have qb : -2147483648 ≤ q ∧ q ≤ 2147483648 := by
    have h3 : q.natAbs ≤ (A2 - A1).natAbs := by
      rw [hq, Int.natAbs_mul]; exact Nat.le_mul_of_pos_left _ (by omega)
    omega
  obtain ⟨q1, q2⟩ := qb
  obtain ⟨L, hL⟩ : ∃ L : Nat, Int.lcm M1 M2 = L := ⟨_, rfl⟩
  rw [hL] at HJ hl hm ⊢
  obtain ⟨g, hg⟩ : ∃ g : Nat, Int.gcd M1 M2 = g := ⟨_, rfl⟩
  unfold BezPost at HB
  rw [hg] at HB g1 g2 ft fm HJ hm h1 h2
  obtain ⟨n, hn⟩ : ∃ n, M2 / (g : Int) = n := ⟨_, rfl⟩
  rw [hn] at HJ hm h1 h2
  have HN := Lib.hid hn
  have HM := Lib.hid hm
  have l1 : 1 ≤ (L : Int) := by
    have := Int.mul_le_mul m1 h1 (by omega) (by omega)
    omega
  clear hq hqd hL hg hn hm
  go_enter Try.func53, Try.ntmps53
  go_wp2_with fail
  refine (HB.out _).mono ?_
  rintro e w1 ⟨x, y, rfl, hxy, hx, hx2, hb1⟩
  have HX := Lib.hid (HJ.out x y hxy)
  have z1 := hb1.size
  simp at z1
  have k0 := kept hb1 (b := w.heap.size) (o := 0) (v := .int .i64 A1) (by simp [go_sem]) (by simp [go_sem] <;> omega)
  have k1 := kept hb1 (b := w.heap.size) (o := 1) (v := .int .i64 M1) (by simp [go_sem]) (by simp [go_sem] <;> omega)
  have l0 := kept hb1 (b := w.heap.size + 1) (o := 0) (v := .int .i64 A2) (by simp [go_sem]) (by simp [go_sem] <;> omega)
  have l1' := kept hb1 (b := w.heap.size + 1) (o := 1) (v := .int .i64 M2) (by simp [go_sem]) (by simp [go_sem] <;> omega)
  have r0 := kept hb1 (b := w.heap.size + 1 + 1) (o := 0) (v := .int .i64 0) (by simp [go_sem]) (by simp [go_sem] <;> omega)
  have r1 := kept hb1 (b := w.heap.size + 1 + 1) (o := 1) (v := .int .i64 0) (by simp [go_sem]) (by simp [go_sem] <;> omega)
  have s0 := (hb1.frozen (p := ⟨w.heap.size + 1 + 1, 0, none⟩) (by simp [go_sem] <;> omega)).trans (show _ = false by simp [go_sem])
  have s1 := (hb1.frozen (p := ⟨w.heap.size + 1 + 1, 1, none⟩) (by simp [go_sem] <;> omega)).trans (show _ = false by simp [go_sem])
  have hB := below_two ((((Below.refl w.heap.size w).alloc (Nat.le_refl _) _).alloc (by simp) _).alloc (by simp; omega) _) hb1
  have hx' := hx (by omega)
  obtain ⟨x1, x2⟩ := hx'
  have e1 := Int.emod_nonneg q (show n ≠ 0 by omega)
  have e2 := Int.emod_lt_of_pos q (show 0 < n by omega)
  have e3 := Int.emod_nonneg x (show n ≠ 0 by omega)
  have e4 := Int.emod_lt_of_pos x (show 0 < n by omega)
  have e5 := Int.emod_nonneg (q % n * (x % n)) (show n ≠ 0 by omega)
  have e6 := Int.emod_lt_of_pos (q % n * (x % n)) (show 0 < n by omega)
  obtain ⟨u, hu⟩ : ∃ u, q % n = u := ⟨_, rfl⟩
  obtain ⟨v, hv⟩ : ∃ u, x % n = u := ⟨_, rfl⟩
  rw [hu, hv] at HX e5 e6
  rw [hu] at e1 e2
  rw [hv] at e3 e4
  have HU := Lib.hid hu
  have HV := Lib.hid hv
  have e7 : 0 ≤ u * v := Int.mul_nonneg e1 e3
  have e8 : u * v ≤ 1048576 * 1048576 := Int.mul_le_mul (by omega) (by omega) e3 (by omega)
  have fw : IntKind.i64.wrap (u * v) = u * v := IntWalk.i64_in _ (by omega)
  obtain ⟨K, hK⟩ : ∃ K, u * v % n = K := ⟨_, rfl⟩
  rw [hK] at HX e5 e6
  have HK := Lib.hid hK
  have e9 : 0 ≤ M1 * K := Int.mul_nonneg (by omega) e5
  have e10 : M1 * K ≤ M1 * n := Int.mul_le_mul_of_nonneg_left (by omega) (by omega)
  rw [HM.out] at e10
  have e11 := Int.emod_nonneg (A1 + M1 * K) (show (L : Int) ≠ 0 by omega)
  have e12 := Int.emod_lt_of_pos (A1 + M1 * K) (show 0 < (L : Int) by omega)
  have fw2 : IntKind.i64.wrap (M1 * K) = M1 * K := IntWalk.i64_in _ (by omega)
  have fw3 : IntKind.i64.wrap (M1 * n) = (L : Int) := by rw [HM.out]; exact IntWalk.i64_in _ (by omega)
  have HZ : Hid (M1 ∣ (A1 + M1 * K) % L - A1 ∧ M2 ∣ (A1 + M1 * K) % L - A2) := Lib.hid HX.out.2
  have fn := HN.out
  clear hb1 hx hxy hu hv hK HJ HX
  go_wp2_with fail
  refine (euclid_Mod _ _ _ h1 (by omega)).mono ?_
  rintro e w2 ⟨rfl, rfl⟩
  rw [HU.out]
  go_wp2_with fail
  refine (euclid_Mod _ _ _ h1 (by omega)).mono ?_
  rintro e w2 ⟨rfl, rfl⟩
  rw [HV.out]
  go_wp2_with fail
  refine (euclid_Mod _ _ _ h1 (by omega)).mono ?_
  rintro e w2 ⟨rfl, rfl⟩
  rw [HK.out]
  go_wp2_with fail
  refine (euclid_Mod _ _ _ l1 hl).mono ?_
  rintro e w2 ⟨rfl, rfl⟩
  go_wp2
  refine bodyPost_ret (v := .tuple #[.agg #[.int .i64 ((A1 + M1 * K) % L), .int .i64 L], .bool true]) ?_ rfl ?_
  · simp [results, Try.f53, go_sem, r0, r1]
  · exact ⟨⟨_, rfl, e11, e12, HZ.out.1, HZ.out.2⟩, (hB.setCell (by simp; omega) _).setCell (by simp; omega) _⟩
end Go.Proofs.Ytceocooppjfjjaa
