/- The contract of commit.Other. -/
import Derived.Test.YtgmkmlfppblpfaaWComB
namespace Go.Proofs.Ytgmkmlfppblpfaa
open Go.RowKit
set_option linter.unusedVariables false
set_option linter.unusedSimpArgs false
/-- what the power of H must be -/
def lft (P Q G c m : Int) : Int := c * pw G (Q - m) P % P
theorem oth_ex {P Q G H m r n l : Int} (hg : grpE P Q G H = 0) (hm : 0 ≤ m) (hr : 0 ≤ r) (hn : 0 ≤ n ∧ n < Q) (hl : 0 ≤ l ∧ l < Q) (hH : pw G l P = H) : ∃ o : Int, 0 ≤ o ∧ o < Q ∧ pw H o P = lft P Q G (com P G H m r) n := by
  have ⟨⟨g1, g2, g3, g4, g5, _, h2, _⟩, hp, hq, _, hG, hHm⟩ := grpE_zero hg
  obtain ⟨eQ, hQ⟩ := prB_int hq g3
  have l0 : ¬ ((Q.toNat : Nat) : Int) ∣ l := fun h => by
    rw [eQ] at h
    have := Int.emod_eq_zero_of_dvd h
    rw [Int.emod_eq_of_lt hl.1 hl.2] at this
    subst this
    rw [pw_zero, Int.emod_eq_of_lt (by omega) (by omega)] at hH
    omega
  obtain ⟨j, j1, j2⟩ : ∃ j : Int, 0 ≤ j ∧ l * j % Q = 1 := by
    refine ⟨l ^ (Q.toNat - 2), Int.pow_nonneg hl.1, ?_⟩
    have := M.fermat_int1 hQ l0
    rw [eQ, show Q.toNat - 1 = (Q.toNat - 2) + 1 by omega, Int.pow_succ, Int.mul_comm] at this
    exact this
  obtain ⟨X, hX⟩ : ∃ X, X = m + l * r + (Q - n) := ⟨_, rfl⟩
  have lr := Int.mul_nonneg hl.1 hr
  have X0 : 0 ≤ X := by omega
  refine ⟨X * j % Q, Int.emod_nonneg _ (by omega), Int.emod_lt_of_pos _ (by omega), ?_⟩
  rw [pw_mod (by omega) (by omega) hHm (Int.mul_nonneg X0 j1)]
  have e1 : pw H (X * j) P = pw G X P := by
    rw [← hH, pw_pw G P hl.1 (Int.mul_nonneg X0 j1), ← pw_mod (by omega) (by omega) hG (Int.mul_nonneg hl.1 (Int.mul_nonneg X0 j1)), ← pw_mod (by omega) (by omega) hG X0]
    congr 1
    rw [Int.mul_left_comm, Int.mul_emod, j2, Int.mul_one, Int.emod_emod]
  have e2 : lft P Q G (com P G H m r) n = pw G X P := by
    unfold lft com
    rw [← hH, pw_pw G P hl.1 hr, pw_add G P hm lr, pw_add G P (by omega) (by omega), ← hX]
  rw [e1, e2]
theorem oth_com {P Q G H c n o : Int} (hg : grpE P Q G H = 0) (hc : 1 ≤ c ∧ c < P) (hn : 0 ≤ n ∧ n < Q) (ho : pw H o P = lft P Q G c n) : com P G H n o = c := by
  have ⟨⟨g1, g2, g3, g4, g5, _, h2, _⟩, hp, hq, _, hG, hHm⟩ := grpE_zero hg
  unfold com
  rw [ho]
  unfold lft
  have e3 : ∀ u v : Int, u * (v % P) % P = u * v % P := fun u v => by rw [Int.mul_emod, Int.emod_emod, ← Int.mul_emod]
  rw [e3, Int.mul_left_comm, Int.mul_emod, pw_add G P hn.1 (by omega), show n + (Q - n) = Q by omega, (memB_iff.1 hG).2.2, Int.mul_one, Int.emod_emod, Int.emod_eq_of_lt (by omega) hc.2]
theorem com_inj {P Q G H n o o' : Int} (hg : grpE P Q G H = 0) (hn : 0 ≤ n) (ho : 0 ≤ o ∧ o < Q) (ho' : 0 ≤ o' ∧ o' < Q) (h : com P G H n o = com P G H n o') : o = o' := by
  have ⟨⟨g1, g2, g3, g4, g5, _, h2, _⟩, hp, hq, _, hG, hHm⟩ := grpE_zero hg
  unfold com at h
  have k := mem_cancel hp (by omega) (pw_pos (by omega) (by omega) hG hn) (pw_lt _ _ (by omega)) h
  rw [Int.emod_eq_of_lt (pw_nonneg _ _ (by omega)) (pw_lt _ _ (by omega)), Int.emod_eq_of_lt (pw_nonneg _ _ (by omega)) (pw_lt _ _ (by omega))] at k
  exact pw_inj hp hq (by omega) g3 hHm h2 ho.1 ho.2 ho'.1 ho'.2 k
set_option maxRecDepth 20000 in
set_option maxHeartbeats 1600000 in
theorem commit_Other (P Q G H c m l o : Int) (w : World) (hg : grpE P Q G H = 0) (hc : memB P Q c = true) (hm : 0 ≤ m ∧ m < Q) (hl : 0 ≤ l ∧ l < Q) (hH : pw G l P = H) (ho : 0 ≤ o ∧ o < Q ∧ pw H o P = lft P Q G c m) :
    Calls Try.prog 22 #[.agg #[.int .i64 P, .int .i64 Q, .int .i64 G, .int .i64 H], .int .i64 c, .int .i64 m, .int .i64 l] w fun e w' => (∃ r : Int, (0 ≤ r ∧ r < Q ∧ pw H r P = lft P Q G c m) ∧ e = .returned (.tuple #[.int .i64 r, .int .i64 0])) ∧ Below w.heap.size w w' := by
  have ⟨⟨g1, g2, g3, g4, g5, _, h2, _⟩, hp, hq, _, hG, hHm⟩ := grpE_zero hg
  have H1 := Lib.hid ((shE_own (a := m) hg).2 hm)
  have H2 := Lib.hid ((shE_own (a := l) hg).2 hl)
  have HM := Lib.hid hc
  have HH := Lib.hid hH
  obtain ⟨m1, m2⟩ := hm
  obtain ⟨l1, l2⟩ := hl
  obtain ⟨c1, c2, _⟩ := memB_iff.1 hc
  have x1 := pw_nonneg G (Q - m) (show 1 ≤ P by omega)
  have x2 := pw_lt G (Q - m) (show 1 ≤ P by omega)
  unfold lft at ho ⊢
  obtain ⟨o1, o2, o3⟩ := ho
  obtain ⟨x, hx⟩ : ∃ x, pw G (Q - m) P = x := ⟨_, rfl⟩
  rw [hx] at x1 x2 o3 ⊢
  have HX := Lib.hid hx
  have q := mul_lim (show 0 ≤ c by omega) (by omega) x1 (by omega)
  have f1 : IntKind.i64.wrap (c * x) = c * x := IntWalk.i64_in _ (by omega)
  have f2 : Int.tmod (c * x) P = c * x % P := Int.tmod_eq_emod_of_nonneg q.1
  have f3 : (P == 0) = false := by simp; omega
  have f4 : ¬ P = 0 := by omega
  have f5 : IntKind.i64.wrap (Q - m) = Q - m := IntWalk.i64_in _ (by omega)
  have HO := Lib.hid o3
  clear hg hc hH hp hq hG hHm hx o3
  go_enter Try.func22, Try.ntmps22
  go_wp2
  have hi0 : ∀ w, (Instr.index 67 (.agg #[.int .i64 m, .int .i64 l]) (.int .i64 0)).run Try.prog w = .ok (.int .i64 m) w := fun _ => rfl
  have hi1 : ∀ w, (Instr.index 67 (.agg #[.int .i64 m, .int .i64 l]) (.int .i64 1)).run Try.prog w = .ok (.int .i64 l) w := fun _ => rfl
  go_loopw [19] (fun i wr => (i = .int .i64 0 ∨ i = .int .i64 1 ∨ i = .int .i64 2) ∧ w.heap.size + 1 ≤ wr.heap.size ∧ Below w.heap.size w wr ∧ wr.cell? ⟨w.heap.size, 0, none⟩ = some (.int .i64 P) ∧ wr.cell? ⟨w.heap.size, 1, none⟩ = some (.int .i64 Q) ∧ wr.cell? ⟨w.heap.size, 2, none⟩ = some (.int .i64 G) ∧ wr.cell? ⟨w.heap.size, 3, none⟩ = some (.int .i64 H)) (fun i _ => 2 - (intOf i).toNat)
  case atStart => exact ⟨.inl rfl, by simp, (Below.refl _ _).alloc (Nat.le_refl _) _, by simp, by simp, by simp, by simp⟩
  case round =>
    obtain ⟨hi, z, hb, k0, k1, k2, k3⟩ := hrel
    rcases hi with rfl | rfl | rfl
    · go_wp2_with fail
      refine (group_Public P Q G H m _ H1.out).mono ?_
      rintro e w1 ⟨rfl, hb1⟩
      have z1 := hb1.size
      replace k0 := kept hb1 k0 (by omega)
      replace k1 := kept hb1 k1 (by omega)
      replace k2 := kept hb1 k2 (by omega)
      replace k3 := kept hb1 k3 (by omega)
      go_wp2
      go_round
      case rel => exact ⟨.inr (.inl (by go_num)), by omega, below_two hb hb1, k0, k1, k2, k3⟩
      case measure => simp [intOf]
    · go_wp2_with fail
      refine (group_Public P Q G H l _ H2.out).mono ?_
      rintro e w1 ⟨rfl, hb1⟩
      have z1 := hb1.size
      replace k0 := kept hb1 k0 (by omega)
      replace k1 := kept hb1 k1 (by omega)
      replace k2 := kept hb1 k2 (by omega)
      replace k3 := kept hb1 k3 (by omega)
      go_wp2
      go_round
      case rel => exact ⟨.inr (.inr (by go_num)), by omega, below_two hb hb1, k0, k1, k2, k3⟩
      case measure => simp [intOf]
    · go_wp2_with fail
      refine (group_Member P Q G H c _ (by omega) g2 (by omega) (by omega)).mono ?_
      rintro e w1 ⟨rfl, hb1⟩
      rw [HM.out]
      have z1 := hb1.size
      replace k0 := kept hb1 k0 (by omega)
      replace k1 := kept hb1 k1 (by omega)
      replace k2 := kept hb1 k2 (by omega)
      replace k3 := kept hb1 k3 (by omega)
      have hbw := below_two hb hb1
      clear hb hb1
      go_wp2_with fail
      go_quiet ((go_at_call 37; exact quiet_same (power_Of' G l P _ (by omega) (by omega) (by omega) g2)))
      rw [HH.out]
      have hn : (H != H) = false := by simp
      rw [hn]
      obtain ⟨w2, hw2⟩ : ∃ w2, w2 = w1.drewN nq := ⟨_, rfl⟩
      replace k0 : w2.cell? ⟨w.heap.size, 0, none⟩ = some (.int .i64 P) := by rw [hw2]; simpa using k0
      replace k1 : w2.cell? ⟨w.heap.size, 1, none⟩ = some (.int .i64 Q) := by rw [hw2]; simpa using k1
      replace k2 : w2.cell? ⟨w.heap.size, 2, none⟩ = some (.int .i64 G) := by rw [hw2]; simpa using k2
      replace k3 : w2.cell? ⟨w.heap.size, 3, none⟩ = some (.int .i64 H) := by rw [hw2]; simpa using k3
      replace hbw : Below w.heap.size w w2 := by rw [hw2]; exact below_drewN hbw _
      rw [← hw2]
      clear hw2 z1
      go_wp2_with fail
      go_quiet ((go_at_call 37; exact quiet_same (power_Of' G (Q - m) P _ (by omega) (by omega) (by omega) g2)))
      rw [HX.out, show wrap64 (c * x) = c * x by unfold wrap64; omega, f2]
      obtain ⟨L, hL⟩ : ∃ L, c * x % P = L := ⟨_, rfl⟩
      rw [hL] at HO
      have hpost : ∀ r : Int, pw H r P = L → pw H r P = c * x % P := fun r h => h.trans hL.symm
      have HP := Lib.hid hpost
      simp only [hL]
      clear hL hpost f1 f2 q
      obtain ⟨w3, hw3⟩ : ∃ w3, w3 = w2.drewN nq := ⟨_, rfl⟩
      replace k0 : w3.cell? ⟨w.heap.size, 0, none⟩ = some (.int .i64 P) := by rw [hw3]; simpa using k0
      replace k3 : w3.cell? ⟨w.heap.size, 3, none⟩ = some (.int .i64 H) := by rw [hw3]; simpa using k3
      replace hbw : Below w.heap.size w w3 := by rw [hw3]; exact below_drewN hbw _
      rw [← hw3]
      clear hw3 k1 k2 hi0 hi1
      go_wp2
      go_loopw [15] (fun r wr => ∃ R : Int, r = .int .i64 R ∧ 0 ≤ R ∧ R ≤ o ∧ w3 = wr) (fun r _ => (o - intOf r).toNat)
      case atStart => exact ⟨0, rfl, by omega, o1, rfl⟩
      case round =>
        obtain ⟨R, rfl, hR, hRo, rfl⟩ := hrel
        obtain ⟨y, hy⟩ : ∃ y, pw H R P = y := ⟨_, rfl⟩
        have HY := Lib.hid hy
        clear hy
        by_cases e : y = L
        · subst e
          go_wp2_with fail
          refine (power_Of' H R P _ (by omega) (by omega) (by omega) g2).mono ?_
          rintro e w' ⟨rfl, rfl⟩
          rw [HY.out]
          go_wp2
          go_ret2
          exact ⟨⟨R, ⟨hR, by omega, HP.out _ HY.out⟩, rfl⟩, hbw⟩
        · have e1 : (y == L) = false := by simpa using e
          have hne : ¬ R = o := fun h => e (by rw [← HY.out, h, HO.out])
          go_wp2_with fail
          refine (power_Of' H R P _ (by omega) (by omega) (by omega) g2).mono ?_
          rintro e w' ⟨rfl, rfl⟩
          rw [HY.out]
          go_wp2
          go_round
          case rel => exact ⟨R + 1, by go_num, by omega, by omega, trivial⟩
          case measure => simp [intOf]; omega
end Go.Proofs.Ytgmkmlfppblpfaa
