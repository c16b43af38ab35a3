/- The contract of the reference's Walk; the walks of the statements CycleReturns and CyclePollard. -/
import Derived.Test.YtfebomnblpamlaaCy
import Derived.Test.YtfebomnblpamlaaRef
namespace Go.Proofs.Ytfebomnblpamlaa
open Go.RowKit
set_option linter.unusedVariables false
set_option linter.unusedSimpArgs false
set_option maxHeartbeats 800000 in
theorem ref_Walk (c n x : Int) (k : Nat) (w : World) (h1 : 1 ≤ n) (h2 : n ≤ 1048576) (h5 : k ≤ 4611686018427387904) :
    Calls Try.prog 30 #[.int .i64 c, .int .i64 n, .int .i64 x, .int .i64 k] w fun e w' => e = .returned (.int .i64 (M.it c n k (x % n))) ∧ Below w.heap.size w w' := by
  have m1 := Int.emod_nonneg x (show n ≠ 0 by omega)
  have m2 := Int.emod_lt_of_pos x (show 0 < n by omega)
  obtain ⟨x0, hx0⟩ : ∃ x0, x0 = x % n := ⟨_, rfl⟩
  rw [← hx0] at m1 m2 ⊢
  have HX := Lib.hid hx0
  clear hx0
  have d1 := Int.emod_nonneg c (show n ≠ 0 by omega)
  have d2 := Int.emod_lt_of_pos c (show 0 < n by omega)
  go_enter Try.func30, Try.ntmps30
  go_wp2_with fail
  refine (ref_Mod _ _ _ h1 (by omega)).mono ?_
  rintro e w' ⟨rfl, rfl⟩
  rw [← HX.out]
  go_wp2
  go_loopw [2, 9] (fun x i wr => ∃ I : Nat, I ≤ k ∧ i = .int .i64 I ∧ x = .int .i64 (M.it c n I x0) ∧ Below w.heap.size w wr) (fun _ i _ => k - (intOf i).toNat)
  case atStart => exact ⟨0, by omega, rfl, rfl, Below.refl _ _⟩
  case round =>
    obtain ⟨I, hI, rfl, rfl, hbel⟩ := hrel
    have ⟨a1, a2⟩ := M.it_bd (c := c) (n := n) (x := x0) (by omega) m1 m2 I
    obtain ⟨y, hy⟩ : ∃ y, y = M.it c n I x0 := ⟨_, rfl⟩
    rw [← hy] at a1 a2 ⊢
    have HY := Lib.hid hy
    clear hy
    have p := mul_lim' a1 (by omega) a1 (by omega)
    have q1 := Int.emod_nonneg (y * y) (show n ≠ 0 by omega)
    have q2 := Int.emod_lt_of_pos (y * y) (show 0 < n by omega)
    by_cases hlt : I < k
    · have f0 : (n == 0) = false := by simp; omega
      have f1 : IntKind.i64.wrap (y * y) = y * y := IntWalk.i64_in _ (by omega)
      have f2 : (y * y).tmod n = y * y % n := Int.tmod_eq_emod_of_nonneg p.1
      have f3 : IntKind.i64.wrap (y * y % n + c % n) = y * y % n + c % n := IntWalk.i64_in _ (by omega)
      have f4 : (y * y % n + c % n).tmod n = (y * y % n + c % n) % n := Int.tmod_eq_emod_of_nonneg (by omega)
      go_wp2_with fail
      go_quiet ((go_at_call 21; exact quiet_same (ref_Mod _ _ _ h1 (by omega))))
      go_wp2
      go_roundw
      case rel => exact ⟨I + 1, by omega, by go_num, by rw [HY.out]; simp [M.it, M.cyF], below_drewN hbel _⟩
      case measure => simp [intOf]; omega
    · have e : I = k := by omega
      have EK := Lib.hid e
      clear e
      go_wp2
      go_ret
      exact ⟨ret_int (by rw [HY.out, EK.out]), hbel⟩
theorem nat_case {a b : Int} (h : 0 ≤ a) : a = a.toNat := by omega
set_option maxHeartbeats 1600000 in
theorem WCycleReturns (a0 : Int) (a1 : Int) (a2 : Int) (w : World) (w0 : (Lit.int .i64 a0).wf = true) (w1 : (Lit.int .i64 a1).wf = true) (w2 : (Lit.int .i64 a2).wf = true) :
    Calls Try.prog 13 #[.int .i64 a0, .int .i64 a1, .int .i64 a2] w fun e w' => e = .returned (.bool true) ∧ Below w.heap.size w w' := by
  clear w0 w1 w2
  by_cases hf : farB a0 = true ∨ farB a2 = true ∨ modB a1 = false
  · have HF : Hid (farB a0 = true ∨ farB a2 = true ∨ a1 < 1 ∨ 1048576 < a1) := by
      rcases hf with h | h | h
      · exact .inl h
      · exact .inr (.inl h)
      · exact .inr (.inr (modB_false h))
    have hc : (farB a0 = true) ∨ (farB a0 = false ∧ farB a2 = true) ∨ (farB a0 = false ∧ farB a2 = false ∧ modB a1 = false) := by
      cases h : farB a0 <;> cases h2 : farB a2 <;> simp_all
    clear hf
    rcases hc with h0 | ⟨h0, h1⟩ | ⟨h0, h1, h2⟩
    all_goals
      go_enter Try.func13, Try.ntmps13
      go_wp2_with fail
      refine (cycle_Cycle_out _ _ _ _ HF.out).mono ?_
      rintro e w1 ⟨rfl, hb⟩
      go_wp2_with (first | (go_at_call 16; refine (keep_near _ _).mono ?_; rintro e w' ⟨rfl, rfl⟩) | (go_at_call 20; refine (keep_modulus _ _).mono ?_; rintro e w' ⟨rfl, rfl⟩))
      go_ret
      exact ⟨rfl, hb⟩
  · have h0 : farB a0 = false := by cases h : farB a0 <;> simp_all
    have h1 : farB a2 = false := by cases h : farB a2 <;> simp_all
    have h2 : modB a1 = true := by cases h : modB a1 <;> simp_all
    clear hf
    obtain ⟨c1, c2⟩ := farB_false h0
    obtain ⟨c3, c4⟩ := farB_false h1
    obtain ⟨c5, c6⟩ := modB_true h2
    go_enter Try.func13, Try.ntmps13
    go_wp2_with fail
    refine (cycle_Cycle _ _ _ _ c1 c2 c3 c4 c5 c6).mono ?_
    rintro e w1 ⟨t, s, rfl, hcyc, hb⟩
    have m1 := Int.emod_nonneg a2 (show a1 ≠ 0 by omega)
    have m2 := Int.emod_lt_of_pos a2 (show 0 < a1 by omega)
    have hts := hcyc.le (by omega) m1 m2
    obtain ⟨x0, hx0⟩ : ∃ x0, x0 = a2 % a1 := ⟨_, rfl⟩
    rw [← hx0] at m1 m2 hcyc
    have HX := Lib.hid hx0
    clear hx0
    have BD := Lib.hid (M.it_bd (c := a0) (show 0 < a1 by omega) m1 m2)
    obtain ⟨hs1, he, hmin, htail⟩ := hcyc
    have HE := Lib.hid he
    have HM := Lib.hid hmin
    have HT := Lib.hid htail
    clear he hmin htail
    have ⟨t0, t1⟩ := BD.out t
    obtain ⟨y, hy⟩ : ∃ y, y = M.it a0 a1 t x0 := ⟨_, rfl⟩
    rw [← hy] at t0 t1
    have HY := Lib.hid hy
    have HYM : Hid (y % a1 = y) := Int.emod_eq_of_lt t0 t1
    have HYS : Hid (M.it a0 a1 s y = y) := by rw [HY.out, ← M.it_add, Nat.add_comm s t]; exact HE.out.symm
    clear hy
    go_wp2_with (first | (go_at_call 16; refine (keep_near _ _).mono ?_; rintro e w' ⟨rfl, rfl⟩) | (go_at_call 20; refine (keep_modulus _ _).mono ?_; rintro e w' ⟨rfl, rfl⟩))
    refine (ref_Walk _ _ _ _ _ c5 c6 (by omega)).mono ?_
    rintro e w2 ⟨rfl, hb2⟩
    rw [← HX.out, ← HY.out]
    go_wp2_with fail
    refine (ref_Walk _ _ _ _ _ c5 c6 (by omega)).mono ?_
    rintro e w3 ⟨rfl, hb3⟩
    rw [HYM.out, HYS.out]
    have hbl : Below w.heap.size w w3 := below_two (below_two hb hb2) hb3
    clear hb hb2 hb3
    go_wp2_with fail
    go_loopw [11, 12] (fun yy kk wr => Below w.heap.size w wr ∧ ∃ (K : Nat) (Y : Int), kk = .int .i64 K ∧ yy = .int .i64 Y ∧ 1 ≤ K ∧ K ≤ s ∧ Y = M.it a0 a1 (t + (K - 1)) x0) (fun _ kk _ => s - (intOf kk).toNat)
    case atStart => exact ⟨hbl, 1, y, rfl, rfl, by omega, by omega, by rw [HY.out]; rfl⟩
    case round =>
      obtain ⟨hbel, K, Y, rfl, rfl, hK1, hK2, hY⟩ := hrel
      have ⟨v0, v1⟩ := BD.out (t + (K - 1))
      rw [← hY] at v0 v1
      have HYY := Lib.hid hY
      have HYY2 : Hid (Y % a1 = Y) := Int.emod_eq_of_lt v0 v1
      clear hY
      by_cases hlt : K < s
      · have ⟨u0, u1⟩ := BD.out (t + K)
        obtain ⟨Z, hZ⟩ : ∃ Z, Z = M.it a0 a1 (t + K) x0 := ⟨_, rfl⟩
        rw [← hZ] at u0 u1
        have HZ := Lib.hid hZ
        have HZ1 : Hid (M.it a0 a1 (1 : Int).toNat Y = Z) := by
          rw [hZ, HYY.out, show (1 : Int).toNat = 1 from rfl, ← M.it_add]; congr 1; omega
        have c1 : (Z == y) = false := by simp only [beq_eq_false_iff_ne]; rw [hZ, HY.out]; exact HM.out K hK1 hlt
        clear hZ
        go_wp2_with fail
        refine (ref_Walk _ _ _ 1 _ c5 c6 (by omega)).mono ?_
        rintro e w4 ⟨rfl, hb4⟩
        rw [HYY2.out]
        have HZ2 : Hid (M.it a0 a1 1 Y = Z) := HZ1.out
        rw [HZ2.out]
        go_wp2
        go_roundw
        case rel => exact ⟨below_two hbel hb4, K + 1, Z, by go_num, rfl, by omega, by omega, by rw [HZ.out]; congr 1⟩
        case measure => simp [intOf]; omega
      · by_cases ht0 : t = 0
        · have c2 : ((t : Int) == 0) = true := by simp; omega
          clear ht0
          go_wp2
          go_ret
          exact ⟨rfl, hbel⟩
        · have c2 : ((t : Int) == 0) = false := by simp; omega
          have ⟨u0, u1⟩ := BD.out (t - 1)
          have ⟨u2, u3⟩ := BD.out (t - 1 + s)
          obtain ⟨Z, hZ⟩ : ∃ Z, Z = M.it a0 a1 (t - 1) x0 := ⟨_, rfl⟩
          obtain ⟨V, hV⟩ : ∃ V, V = M.it a0 a1 (t - 1 + s) x0 := ⟨_, rfl⟩
          rw [← hZ] at u0 u1
          rw [← hV] at u2 u3
          have HZ := Lib.hid hZ
          have HZM : Hid (Z % a1 = Z) := Int.emod_eq_of_lt u0 u1
          have HZS := Lib.hid (show M.it a0 a1 s Z = V by rw [hV, hZ, ← M.it_add, Nat.add_comm s])
          have c3 : (Z != V) = true := by simp only [bne_iff_ne]; rw [hZ, hV]; exact HT.out (t - 1) (by omega)
          have c4 : Z ≠ V := by simpa using c3
          have htt : ((t : Int) - 1) = ((t - 1 : Nat) : Int) := by omega
          have HTT := Lib.hid htt
          clear hZ hV htt
          go_wp2_with fail
          rw [HTT.out]
          refine (ref_Walk _ _ _ _ _ c5 c6 (by omega)).mono ?_
          rintro e w4 ⟨rfl, hb4⟩
          rw [← HX.out, ← HZ.out]
          go_wp2_with fail
          refine (ref_Walk _ _ _ _ _ c5 c6 (by omega)).mono ?_
          rintro e w5 ⟨rfl, hb5⟩
          rw [HZM.out, HZS.out]
          go_wp2
          go_ret
          exact ⟨ret_bool (by first | rfl | exact c3 | (simp; exact c4)), below_two (below_two hbel hb4) hb5⟩
set_option maxHeartbeats 1600000 in
theorem WCyclePollard (a0 : Int) (a1 : Int) (a2 : Int) (w : World) (w0 : (Lit.int .i64 a0).wf = true) (w1 : (Lit.int .i64 a1).wf = true) (w2 : (Lit.int .i64 a2).wf = true) :
    Calls Try.prog 14 #[.int .i64 a0, .int .i64 a1, .int .i64 a2] w fun e w' => e = .returned (.bool true) ∧ Below w.heap.size w w' := by
  clear w0 w1 w2
  by_cases hf : farB a0 = true ∨ farB a2 = true ∨ modB a1 = false
  · have HF : Hid (farB a0 = true ∨ farB a2 = true ∨ a1 < 1 ∨ 1048576 < a1) := by
      rcases hf with h | h | h
      · exact .inl h
      · exact .inr (.inl h)
      · exact .inr (.inr (modB_false h))
    have hc : (farB a0 = true) ∨ (farB a0 = false ∧ farB a2 = true) ∨ (farB a0 = false ∧ farB a2 = false ∧ modB a1 = false) := by
      cases h : farB a0 <;> cases h2 : farB a2 <;> simp_all
    clear hf
    rcases hc with h0 | ⟨h0, h1⟩ | ⟨h0, h1, h2⟩
    all_goals
      go_enter Try.func14, Try.ntmps14
      go_wp2_with fail
      refine (cycle_Split_out _ _ _ _ HF.out).mono ?_
      rintro e w1 ⟨rfl, hb⟩
      go_wp2_with fail
      refine (cycle_Cycle_out _ _ _ _ HF.out).mono ?_
      rintro e w2 ⟨rfl, hb2⟩
      go_wp2_with (first | (go_at_call 16; refine (keep_near _ _).mono ?_; rintro e w' ⟨rfl, rfl⟩) | (go_at_call 20; refine (keep_modulus _ _).mono ?_; rintro e w' ⟨rfl, rfl⟩))
      go_ret
      exact ⟨rfl, below_two hb hb2⟩
  · have h0 : farB a0 = false := by cases h : farB a0 <;> simp_all
    have h1 : farB a2 = false := by cases h : farB a2 <;> simp_all
    have h2 : modB a1 = true := by cases h : modB a1 <;> simp_all
    clear hf
    obtain ⟨c1, c2⟩ := farB_false h0
    obtain ⟨c3, c4⟩ := farB_false h1
    obtain ⟨c5, c6⟩ := modB_true h2
    by_cases hone : a1 = 1
    · subst hone
      go_enter Try.func14, Try.ntmps14
      go_wp2_with fail
      refine (cycle_Split_one _ _ _ c1 c2 c3 c4).mono ?_
      rintro e w1 ⟨rfl, hb⟩
      go_wp2_with fail
      refine (cycle_Cycle _ _ _ _ c1 c2 c3 c4 c5 c6).mono ?_
      rintro e w2 ⟨t, s, rfl, _, hb2⟩
      go_wp2_with (first | (go_at_call 16; refine (keep_near _ _).mono ?_; rintro e w' ⟨rfl, rfl⟩) | (go_at_call 20; refine (keep_modulus _ _).mono ?_; rintro e w' ⟨rfl, rfl⟩))
      go_ret
      exact ⟨rfl, below_two hb hb2⟩
    · have n2 : 2 ≤ a1 := by omega
      have c7 : (a1 == 1) = false := by simpa using hone
      clear hone
      go_enter Try.func14, Try.ntmps14
      go_wp2_with fail
      refine (cycle_Split _ _ _ _ c1 c2 c3 c4 n2 c6).mono ?_
      rintro e w1 ⟨i, g, rfl, hi, hg1, hgd, hmeet, hb⟩
      have HM := Lib.hid hmeet
      have hgz : (a1 % (g : Int) == 0) = true := by simpa using Int.emod_eq_zero_of_dvd hgd
      have HGD := Lib.hid hgd
      have hgle := Int.le_of_dvd (by omega) hgd
      clear hmeet hgd
      go_wp2_with fail
      refine (cycle_Cycle _ _ _ _ c1 c2 c3 c4 c5 c6).mono ?_
      rintro e w2 ⟨t, s, rfl, hcyc, hb2⟩
      have hts := hcyc.le (by omega) (Int.emod_nonneg a2 (show a1 ≠ 0 by omega)) (Int.emod_lt_of_pos a2 (show 0 < a1 by omega))
      have hit : i ≤ t + s := by
        obtain ⟨j, j1, j2, j3⟩ := hcyc.meet
        have := HM.out j j1 j3
        omega
      clear hcyc
      go_wp2_with (first | (go_at_call 16; refine (keep_near _ _).mono ?_; rintro e w' ⟨rfl, rfl⟩) | (go_at_call 20; refine (keep_modulus _ _).mono ?_; rintro e w' ⟨rfl, rfl⟩))
      go_ret
      exact ⟨ret_bool (by first | rfl | (simp; omega)), below_two hb hb2⟩
end Go.Proofs.Ytfebomnblpamlaa
