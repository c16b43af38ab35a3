/- The walks of the statements on Jacobi's symbol: SquaresReciprocity, SquaresMul. -/
import Derived.Test.YtfebomnblpamlaaJac
import Derived.Test.YtfebomnblpamlaaRefGcd
namespace Go.Proofs.Ytfebomnblpamlaa
open Go.RowKit
set_option linter.unusedVariables false
set_option linter.unusedSimpArgs false
theorem jac_lim (a n : Int) : -1 ≤ M.jac a n ∧ M.jac a n ≤ 1 := by rcases M.jac_cases a n with h | h | h <;> omega
theorem par_half {m n : Int} (hm : m % 2 = 1) (hn : n % 2 = 1) : M.par ((m - 1) / 2 * ((n - 1) / 2)) = if m % 4 = 3 ∧ n % 4 = 3 then -1 else 1 := by
  obtain ⟨u, hu⟩ : ∃ u, m = 2 * u + 1 := ⟨m / 2, by omega⟩
  obtain ⟨v, hv⟩ : ∃ v, n = 2 * v + 1 := ⟨n / 2, by omega⟩
  have hu2 : (m - 1) / 2 = u := by omega
  have hv2 : (n - 1) / 2 = v := by omega
  rw [hu2, hv2]
  have hp : M.par (u * v) = if u % 2 = 1 ∧ v % 2 = 1 then -1 else 1 := by
    unfold M.par
    rw [Int.mul_emod]
    rcases Int.emod_two_eq u with a | a <;> rcases Int.emod_two_eq v with b | b <;> rw [a, b] <;> simp
  rw [hp]
  by_cases hc : m % 4 = 3 ∧ n % 4 = 3
  · rw [if_pos hc, if_pos (by omega)]
  · rw [if_neg hc, if_neg (by omega)]
/-- all that the statement asks -/
theorem recip_facts {m n : Int} (hm : 0 < m) (hmo : m % 2 = 1) (hn : 0 < n) (hno : n % 2 = 1) :
    (M.jac 2 n = 1 ↔ (n % 8 = 1 ∨ n % 8 = 7)) ∧ (M.jac (-1) n = 1 ↔ n % 4 = 1) ∧
    (Int.gcd m n ≠ 1 → M.jac m n = 0 ∧ M.jac n m = 0) ∧
    (Int.gcd m n = 1 → M.jac m n ≠ 0 ∧ M.jac m n = if m % 4 = 3 ∧ n % 4 = 3 then - M.jac n m else M.jac n m) := by
  refine ⟨?_, ?_, fun h => ⟨M.jac_zero_iff.2 h, M.jac_zero_iff.2 (by rw [Int.gcd_comm]; exact h)⟩, fun h => ?_⟩
  · rw [M.jac_two hn hno]; split <;> simp_all
  · rw [M.jac_neg_one hn hno]; unfold M.par; split <;> omega
  · have h0 : M.jac m n ≠ 0 := fun e => (M.jac_zero_iff.1 e) h
    refine ⟨h0, ?_⟩
    have r := M.jac_recip hn hno hm hmo h
    have s := M.jac_sq (a := n) (n := m) (by rw [Int.gcd_comm]; exact h)
    rw [par_half hmo hno] at r
    have e : M.jac m n = (M.jac m n * M.jac n m) * M.jac n m := by rw [Int.mul_assoc, s, Int.mul_one]
    rw [r] at e
    rw [e]; split <;> grind
set_option maxHeartbeats 1600000 in
theorem WSquaresReciprocity (a0 : Int) (a1 : Int) (w : World) (w0 : (Lit.int .i64 a0).wf = true) (w1 : (Lit.int .i64 a1).wf = true) :
    Calls Try.prog 10 #[.int .i64 a0, .int .i64 a1] w fun e w' => e = .returned (.bool true) ∧ Below w.heap.size w w' := by
  have b0 := wf64 w0
  have b1 := wf64 w1
  clear w0 w1
  by_cases hall : modB a0 = true ∧ modB a1 = true ∧ a0 % 2 = 1 ∧ a1 % 2 = 1
  · obtain ⟨h0, h1, ho0, ho1⟩ := hall
    obtain ⟨c1, c2⟩ := modB_true h0
    obtain ⟨c3, c4⟩ := modB_true h1
    obtain ⟨f1, f2, f3, f4⟩ := recip_facts (show 0 < a0 by omega) ho0 (show 0 < a1 by omega) ho1
    have O0 := Lib.hid ho0
    have O1 := Lib.hid ho1
    have o0 : (a0 % 2 == 0) = false := by simp; omega
    have o1 : (a1 % 2 == 0) = false := by simp; omega
    have l1 := jac_lim a0 a1
    have l2 := jac_lim a1 a0
    have l3 := jac_lim 2 a1
    have l4 := jac_lim (-1) a1
    obtain ⟨x, hx⟩ : ∃ x, x = M.jac a0 a1 := ⟨_, rfl⟩
    obtain ⟨y, hy⟩ : ∃ x, x = M.jac a1 a0 := ⟨_, rfl⟩
    obtain ⟨t, ht⟩ : ∃ x, x = M.jac 2 a1 := ⟨_, rfl⟩
    obtain ⟨v, hv⟩ : ∃ x, x = M.jac (-1) a1 := ⟨_, rfl⟩
    obtain ⟨g, hg⟩ : ∃ x : Int, x = Int.gcd a0 a1 := ⟨_, rfl⟩
    rw [← hx, ← hy] at f3 f4
    rw [← ht] at f1 l3
    rw [← hv] at f2 l4
    rw [← hx] at l1
    rw [← hy] at l2
    have HX := Lib.hid hx
    have HY := Lib.hid hy
    have HT := Lib.hid ht
    have HV := Lib.hid hv
    have HG := Lib.hid hg
    have g3 : g ≠ 1 → x = 0 ∧ y = 0 := fun h => f3 (by omega)
    have g4 : g = 1 → x ≠ 0 ∧ x = if a0 % 4 = 3 ∧ a1 % 4 = 3 then -y else y := fun h => f4 (by omega)
    have cases8 : ((t == 1) = true ∧ (a1 % 8 == 1) = true) ∨ ((t == 1) = true ∧ (a1 % 8 == 1) = false ∧ (a1 % 8 == 7) = true) ∨ ((t == 1) = false ∧ (a1 % 8 == 1) = false ∧ (a1 % 8 == 7) = false) := by
      by_cases e1 : a1 % 8 = 1
      · left; exact ⟨by simpa using f1.2 (.inl e1), by simpa using e1⟩
      · by_cases e2 : a1 % 8 = 7
        · right; left; exact ⟨by simpa using f1.2 (.inr e2), by simpa using e1, by simpa using e2⟩
        · right; right
          refine ⟨?_, by simpa using e1, by simpa using e2⟩
          simp only [beq_eq_false_iff_ne]; intro h; rcases f1.1 h with h | h <;> omega
    have cases4 : ((v == 1) = true ∧ (a1 % 4 == 1) = true) ∨ ((v == 1) = false ∧ (a1 % 4 == 1) = false) := by
      by_cases e1 : a1 % 4 = 1
      · left; exact ⟨by simpa using f2.2 e1, by simpa using e1⟩
      · right; exact ⟨by simpa using fun h => e1 (f2.1 h), by simpa using e1⟩
    have casesg : ((g == 1) = false ∧ (x == 0) = true ∧ (y == 0) = true) ∨ ((g == 1) = true ∧ x ≠ 0 ∧ (a0 % 4 == 3) = true ∧ (a1 % 4 == 3) = true ∧ (x == -y) = true) ∨
        ((g == 1) = true ∧ x ≠ 0 ∧ (a0 % 4 == 3) = true ∧ (a1 % 4 == 3) = false ∧ (x == y) = true) ∨ ((g == 1) = true ∧ x ≠ 0 ∧ (a0 % 4 == 3) = false ∧ (x == y) = true) := by
      by_cases e : g = 1
      · obtain ⟨n0, n1⟩ := g4 e
        by_cases e1 : a0 % 4 = 3
        · by_cases e2 : a1 % 4 = 3
          · rw [if_pos ⟨e1, e2⟩] at n1
            right; left; exact ⟨by simpa using e, n0, by simpa using e1, by simpa using e2, by simpa using n1⟩
          · rw [if_neg (by omega)] at n1
            right; right; left; exact ⟨by simpa using e, n0, by simpa using e1, by simpa using e2, by simpa using n1⟩
        · rw [if_neg (by omega)] at n1
          right; right; right; exact ⟨by simpa using e, n0, by simpa using e1, by simpa using n1⟩
      · left; exact ⟨by simpa using e, by simpa using (g3 e).1, by simpa using (g3 e).2⟩
    clear f1 f2 f3 f4 g3 g4 hx hy ht hv hg ho0 ho1
    rcases cases8 with ⟨p1, p2⟩ | ⟨p1, p2, p3⟩ | ⟨p1, p2, p3⟩ <;> rcases cases4 with ⟨q1, q2⟩ | ⟨q1, q2⟩ <;> rcases casesg with ⟨r1, r2, r3⟩ | ⟨r1, r2, r3, r4, r5⟩ | ⟨r1, r2, r3, r4, r5⟩ | ⟨r1, r2, r3, r4⟩
    all_goals
      go_enter Try.func10, Try.ntmps10
      go_wp2_with (go_at_call 20; refine (keep_modulus _ _).mono ?_; rintro e w' ⟨rfl, rfl⟩)
      refine (squares_Jacobi _ _ _ (by omega) (by omega) c3 c4 O1.out).mono ?_
      rintro e w' ⟨rfl, rfl⟩
      rw [← HX.out]
      go_wp2_with fail
      refine (squares_Jacobi _ _ _ (by omega) (by omega) c1 c2 O0.out).mono ?_
      rintro e w' ⟨rfl, rfl⟩
      rw [← HY.out]
      go_wp2_with fail
      refine (squares_Jacobi _ _ _ (by omega) (by omega) c3 c4 O1.out).mono ?_
      rintro e w' ⟨rfl, rfl⟩
      rw [← HT.out]
      go_wp2_with fail
      refine (squares_Jacobi _ _ _ (by omega) (by omega) c3 c4 O1.out).mono ?_
      rintro e w' ⟨rfl, rfl⟩
      rw [← HV.out]
      go_wp2_with (go_at_call 27; refine (ref_Gcd _ _ _ (by omega) (by omega) (by omega) (by omega)).mono ?_; rintro e w' ⟨rfl, rfl⟩; rw [← HG.out])
      all_goals
        go_ret
        exact ⟨by first | rfl | exact ret_bool (by simp; omega) | exact ret_bool (by simp [*]), Below.refl _ _⟩
  · have hc : (modB a0 = false) ∨ (modB a0 = true ∧ modB a1 = false) ∨ (modB a0 = true ∧ modB a1 = true ∧ (a0 % 2 == 0) = true) ∨ (modB a0 = true ∧ modB a1 = true ∧ (a0 % 2 == 0) = false ∧ (a1 % 2 == 0) = true) := by
      cases h0 : modB a0 <;> cases h1 : modB a1 <;> simp
      by_cases e : a0 % 2 = 0
      · left; simpa using e
      · right
        refine ⟨by simpa using e, ?_⟩
        have : ¬ a1 % 2 = 1 := fun h => hall ⟨h0, h1, by omega, h⟩
        omega
    clear hall
    have hj : (∀ w : World, Calls Try.prog 26 #[.int .i64 a0, .int .i64 a1] w fun e w' => e = .returned (.tuple #[.int .i64 0, .int .i64 2]) ∧ w = w') ∨
        (a1 % 2 = 1 ∧ 1 ≤ a1 ∧ ∀ w : World, Calls Try.prog 26 #[.int .i64 a0, .int .i64 a1] w fun e w' => e = .returned (.tuple #[.int .i64 (M.jac a0 a1), .int .i64 0]) ∧ w = w') := by
      by_cases hf : farB a0 = true ∨ a1 < 1 ∨ 1048576 < a1 ∨ a1 % 2 = 0
      · exact .inl fun w => squares_Jacobi_no _ _ w hf
      · right
        have h0 : farB a0 = false := by cases h : farB a0 <;> simp_all
        obtain ⟨d1, d2⟩ := farB_false h0
        have h1 : 1 ≤ a1 ∧ a1 ≤ 1048576 ∧ a1 % 2 = 1 := by
          have : ¬ (a1 < 1 ∨ 1048576 < a1 ∨ a1 % 2 = 0) := fun h => hf (.inr h)
          omega
        exact ⟨h1.2.2, h1.1, fun w => squares_Jacobi _ _ w d1 d2 h1.1 h1.2.1 h1.2.2⟩
    rcases hj with hj | ⟨ho, hp, hj⟩
    · have HJ := Lib.hid hj
      clear hj
      have hc2 : a1 < 1 ∨ (1 ≤ a1 ∧ (a1 % 2 == 1) = true) ∨ (1 ≤ a1 ∧ (a1 % 2 == 1) = false) := by
        by_cases e : a1 < 1
        · exact .inl e
        · by_cases e2 : a1 % 2 = 1
          · exact .inr (.inl ⟨by omega, by simpa using e2⟩)
          · exact .inr (.inr ⟨by omega, by simpa using e2⟩)
      have hp0 : modB a0 = true → 1 ≤ a0 := fun h => (modB_true h).1
      have hp1 : modB a1 = true → 1 ≤ a1 := fun h => (modB_true h).1
      rcases hc with h0 | ⟨h0, h1⟩ | ⟨h0, h1, h2⟩ | ⟨h0, h1, h2, h3⟩ <;> rcases hc2 with k | ⟨k, k1⟩ | ⟨k, k1⟩
      all_goals
        try have g0 := hp0 h0
        try have g1 := hp1 h1
        clear hp0 hp1
      any_goals (exfalso; omega)
      all_goals
        go_enter Try.func10, Try.ntmps10
        go_wp2_with (first | (go_at_call 20; refine (keep_modulus _ _).mono ?_; rintro e w' ⟨rfl, rfl⟩) | (go_at_call 26; refine (HJ.out _).mono ?_; rintro e w' ⟨rfl, rfl⟩))
        all_goals
          go_ret
          exact ⟨rfl, Below.refl _ _⟩
    · have HJ := Lib.hid hj
      have k1 : (a1 % 2 == 1) = true := by simpa using ho
      have HO := Lib.hid ho
      have k2 : (a1 % 2 == 0) = false := by simp; omega
      clear hj ho
      have hp0 : modB a0 = true → 1 ≤ a0 := fun h => (modB_true h).1
      rcases hc with h0 | ⟨h0, h1⟩ | ⟨h0, h1, h2⟩ | ⟨h0, h1, h2, h3⟩
      · clear hp0
        go_enter Try.func10, Try.ntmps10
        go_wp2_with (first | (go_at_call 20; refine (keep_modulus _ _).mono ?_; rintro e w' ⟨rfl, rfl⟩) | (go_at_call 26; refine (HJ.out _).mono ?_; rintro e w' ⟨rfl, rfl⟩))
        go_ret
        exact ⟨rfl, Below.refl _ _⟩
      · have g0 := hp0 h0
        clear hp0
        go_enter Try.func10, Try.ntmps10
        go_wp2_with (first | (go_at_call 20; refine (keep_modulus _ _).mono ?_; rintro e w' ⟨rfl, rfl⟩) | (go_at_call 26; refine (HJ.out _).mono ?_; rintro e w' ⟨rfl, rfl⟩))
        go_ret
        exact ⟨rfl, Below.refl _ _⟩
      · have g0 := hp0 h0
        clear hp0
        go_enter Try.func10, Try.ntmps10
        go_wp2_with (first | (go_at_call 20; refine (keep_modulus _ _).mono ?_; rintro e w' ⟨rfl, rfl⟩) | (go_at_call 26; refine (HJ.out _).mono ?_; rintro e w' ⟨rfl, rfl⟩))
        go_ret
        exact ⟨rfl, Below.refl _ _⟩
      · simp_all
set_option maxHeartbeats 1600000 in
theorem WSquaresMul (a0 : Int) (a1 : Int) (a2 : Int) (a3 : Int) (w : World) (w0 : (Lit.int .i64 a0).wf = true) (w1 : (Lit.int .i64 a1).wf = true) (w2 : (Lit.int .i64 a2).wf = true) (w3 : (Lit.int .i64 a3).wf = true) :
    Calls Try.prog 11 #[.int .i64 a0, .int .i64 a1, .int .i64 a2, .int .i64 a3] w fun e w' => e = .returned (.bool true) ∧ Below w.heap.size w w' := by
  clear w0 w1 w2 w3
  by_cases hall : modB a2 = true ∧ modB a3 = true ∧ a2 % 2 = 1 ∧ a3 % 2 = 1 ∧ a2 * a3 ≤ 1048576 ∧ -46340 ≤ a0 ∧ -46340 ≤ a1 ∧ a0 ≤ 46340 ∧ a1 ≤ 46340
  · obtain ⟨h0, h1, ho0, ho1, hmn, d1, d2, d3, d4⟩ := hall
    obtain ⟨c1, c2⟩ := modB_true h0
    obtain ⟨c3, c4⟩ := modB_true h1
    have e1 := M.jac_mul (a := a0) (b := a1) (n := a3) (by omega) ho1
    have e2 := M.jac_mul_below (a := a0) (m := a2) (n := a3) (by omega) ho0 (by omega) ho1
    have e3 := M.jac_one a3
    have hmo : a2 * a3 % 2 = 1 := by rw [Int.mul_emod, ho0, ho1]; rfl
    have hm1 : 1 ≤ a2 * a3 := Int.mul_pos (by omega) (by omega)
    have p1 : (a0 * a1).natAbs ≤ 46340 * 46340 := by rw [Int.natAbs_mul]; exact Nat.mul_le_mul (by omega) (by omega)
    have p2 : -2147483648 ≤ a0 * a1 := by omega
    have p3 : a0 * a1 ≤ 2147483648 := by omega
    clear p1
    have O0 := Lib.hid ho0
    have O1 := Lib.hid ho1
    have OM := Lib.hid hmo
    have o0 : (a2 % 2 == 0) = false := by simp; omega
    have o1 : (a3 % 2 == 0) = false := by simp; omega
    have l1 := jac_lim a0 a3
    have l2 := jac_lim a1 a3
    have l3 := jac_lim a0 a2
    obtain ⟨x, hx⟩ : ∃ x, x = M.jac a0 a3 := ⟨_, rfl⟩
    obtain ⟨y, hy⟩ : ∃ x, x = M.jac a1 a3 := ⟨_, rfl⟩
    obtain ⟨u, hu⟩ : ∃ x, x = M.jac a0 a2 := ⟨_, rfl⟩
    rw [← hx, ← hy] at e1
    rw [← hx, ← hu] at e2
    rw [← hx] at l1
    rw [← hy] at l2
    rw [← hu] at l3
    have HX := Lib.hid hx
    have HY := Lib.hid hy
    have HU := Lib.hid hu
    have E1 := Lib.hid e1
    have E2 := Lib.hid e2
    have E3 := Lib.hid e3
    clear hx hy hu e1 e2 e3 ho0 ho1 hmo
    have q1 : (x * y).natAbs ≤ 1 * 1 := by rw [Int.natAbs_mul]; exact Nat.mul_le_mul (by omega) (by omega)
    have q2 : (u * x).natAbs ≤ 1 * 1 := by rw [Int.natAbs_mul]; exact Nat.mul_le_mul (by omega) (by omega)
    go_enter Try.func11, Try.ntmps11
    go_wp2_with (go_at_call 20; refine (keep_modulus _ _).mono ?_; rintro e w' ⟨rfl, rfl⟩)
    refine (squares_Jacobi _ _ _ (by omega) (by omega) c3 c4 O1.out).mono ?_
    rintro e w' ⟨rfl, rfl⟩
    rw [← HX.out]
    go_wp2_with fail
    refine (squares_Jacobi _ _ _ (by omega) (by omega) c3 c4 O1.out).mono ?_
    rintro e w' ⟨rfl, rfl⟩
    rw [← HY.out]
    go_wp2_with fail
    refine (squares_Jacobi _ _ _ (by omega) (by omega) c3 c4 O1.out).mono ?_
    rintro e w' ⟨rfl, rfl⟩
    rw [E1.out]
    go_wp2_with fail
    refine (squares_Jacobi _ _ _ (by omega) (by omega) c1 c2 O0.out).mono ?_
    rintro e w' ⟨rfl, rfl⟩
    rw [← HU.out]
    go_wp2_with fail
    refine (squares_Jacobi _ _ _ (by omega) (by omega) hm1 hmn OM.out).mono ?_
    rintro e w' ⟨rfl, rfl⟩
    rw [E2.out]
    go_wp2_with fail
    refine (squares_Jacobi _ _ _ (by omega) (by omega) c3 c4 O1.out).mono ?_
    rintro e w' ⟨rfl, rfl⟩
    rw [E3.out]
    go_wp2
    go_ret
    exact ⟨ret_bool (by simp), Below.refl _ _⟩
  · have p0 : modB a2 = true → modB a3 = true → 0 ≤ a2 * a3 ∧ a2 * a3 ≤ 1099511627776 := fun h h' => by
      obtain ⟨c1, c2⟩ := modB_true h
      obtain ⟨c3, c4⟩ := modB_true h'
      exact ⟨Int.mul_nonneg (by omega) (by omega), by have := Int.mul_le_mul c2 c4 (by omega) (by omega : (0 : Int) ≤ 1048576); omega⟩
    have hc : (modB a2 = false) ∨ (modB a2 = true ∧ modB a3 = false) ∨ (modB a2 = true ∧ modB a3 = true ∧ (a2 % 2 = 0 ∨ (a2 % 2 = 1 ∧ (a3 % 2 = 0 ∨ (a3 % 2 = 1 ∧ (1048576 < a2 * a3 ∨ (a2 * a3 ≤ 1048576 ∧ (a0 < -46340 ∨ (-46340 ≤ a0 ∧ (a1 < -46340 ∨ (-46340 ≤ a1 ∧ (46340 < a0 ∨ (a0 ≤ 46340 ∧ 46340 < a1))))))))))))) := by
      cases h0 : modB a2 <;> cases h1 : modB a3 <;> simp only [h0, h1, true_and, and_true, Bool.false_eq_true, false_and, or_false, false_or, or_true, true_or, Bool.true_eq_false] at hall ⊢
      omega
    clear hall
    have done : ∀ w : World, (w = w) := fun _ => rfl
    clear done
    rcases hc with h0 | ⟨h0, h1⟩ | ⟨h0, h1, hc⟩
    · go_enter Try.func11, Try.ntmps11
      go_wp2_with (go_at_call 20; refine (keep_modulus _ _).mono ?_; rintro e w' ⟨rfl, rfl⟩)
      go_ret
      exact ⟨rfl, Below.refl _ _⟩
    · go_enter Try.func11, Try.ntmps11
      go_wp2_with (go_at_call 20; refine (keep_modulus _ _).mono ?_; rintro e w' ⟨rfl, rfl⟩)
      go_ret
      exact ⟨rfl, Below.refl _ _⟩
    · obtain ⟨m1, m2⟩ := p0 h0 h1
      obtain ⟨c1, c2⟩ := modB_true h0
      obtain ⟨c3, c4⟩ := modB_true h1
      clear p0
      rcases hc with c | ⟨c5, c | ⟨c6, c | ⟨c7, c | ⟨c8, c | ⟨c9, c | ⟨c10, c⟩⟩⟩⟩⟩⟩
      all_goals
        try replace c : (a2 % 2 == 0) = true := by simpa using c
        try replace c : (a3 % 2 == 0) = true := by simpa using c
        try replace c5 : (a2 % 2 == 0) = false := by simp; omega
        try replace c6 : (a3 % 2 == 0) = false := by simp; omega
        go_enter Try.func11, Try.ntmps11
        go_wp2_with (go_at_call 20; refine (keep_modulus _ _).mono ?_; rintro e w' ⟨rfl, rfl⟩)
        go_ret
        exact ⟨rfl, Below.refl _ _⟩
end Go.Proofs.Ytfebomnblpamlaa
