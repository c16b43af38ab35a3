/- log.Log for a prime and a number that it does not divide. -/
import Derived.Test.YtceocooppjfjjaaLog2
namespace Go.Proofs.Ytceocooppjfjjaa
open Go.RowKit Go.Maps Go.WideMaps
set_option linter.unusedVariables false
set_option linter.unusedSimpArgs false
theorem LeastE.mods {g a p : Int} {E : Nat} (h : LeastE (g % p) (a % p) p E) : LeastE g a p E := by
  obtain ⟨h1, h2⟩ := h
  rw [M.emod_pow, Int.emod_emod] at h1
  refine ⟨h1, fun e' he => ?_⟩
  have := h2 e' he
  rwa [M.emod_pow, Int.emod_emod] at this
/-- one more giant step -/
theorem giant {g p y : Int} {S i : Nat} (hy : y = g ^ (i * S) % p) : y * (g ^ S % p) % p = g ^ ((i + 1) * S) % p := by
  rw [hy, ← Int.mul_emod, ← Int.pow_add, Nat.add_mul, Nat.one_mul]
theorem baby {g p a x : Int} {J : Nat} (hx : x = a * g ^ J % p) : x * g % p = a * g ^ (J + 1) % p := by
  rw [hx, Int.pow_succ, ← Int.mul_assoc, Int.mul_emod, Int.emod_emod, ← Int.mul_emod]
set_option maxRecDepth 100000 in
set_option maxHeartbeats 6400000 in
theorem log_Log (g a p : Int) (w : World) (h : logE p g a = 0) (hg : g % p ≠ 0) :
    Calls Try.prog 18 #[.int .i64 g, .int .i64 a, .int .i64 p] w (LogPost g a p w) := by
  obtain ⟨f1, f2, p1, p2, pp⟩ := logE_zero h
  have p3 : 2 ≤ p := by have := (prB_true pp).1; omega
  obtain ⟨N, rfl⟩ := Int.eq_ofNat_of_zero_le (show 0 ≤ p by omega)
  have hp : M.Pr N := by have := prB_true pp; simpa using this
  have HC := Lib.hid fun b w => log_wrong N g a b w
  rw [h] at HC
  have HGm := Lib.hid fun w => euclid_Mod g N w p1 (by omega)
  have HAm := Lib.hid fun w => euclid_Mod a N w p1 (by omega)
  suffices HS : Calls Try.prog 18 #[.int .i64 g, .int .i64 a, .int .i64 N] w (fun e w' => LogPost (g % N) (a % N) N w e w') by
    refine HS.mono ?_
    rintro e w' ⟨h1, h2⟩
    refine ⟨?_, h2⟩
    rcases h1 with ⟨E, h3, h4⟩ | ⟨h3, h4⟩
    · exact .inl ⟨E, h3.mods, h4⟩
    · refine .inr ⟨fun e' he => ?_, h4⟩
      have := h3 e' he
      rwa [M.emod_pow, Int.emod_emod] at this
  obtain ⟨A, hA⟩ : ∃ A, a % (N : Int) = A := ⟨_, rfl⟩
  obtain ⟨G, hG⟩ : ∃ G, g % (N : Int) = G := ⟨_, rfl⟩
  have a1 : 0 ≤ A := by rw [← hA]; exact Int.emod_nonneg _ (by omega)
  have a2 : A < N := by rw [← hA]; exact Int.emod_lt_of_pos _ (by omega)
  have g1 : 0 ≤ G := by rw [← hG]; exact Int.emod_nonneg _ (by omega)
  have g2 : G < N := by rw [← hG]; exact Int.emod_lt_of_pos _ (by omega)
  have hnd : ¬ (N : Int) ∣ G := fun hd => by
    have := Int.emod_eq_zero_of_dvd hd
    rw [Int.emod_eq_of_lt g1 g2] at this
    exact hg (by rw [hG, this])
  rw [hA] at HAm ⊢
  rw [hG] at HGm hg ⊢
  have o1 : (1 : Int).tmod N = 1 := by rw [Int.tmod_eq_emod_of_nonneg (by omega)]; exact Int.emod_eq_of_lt (by omega) (by omega)
  have o2 : (1 : Int) % N = 1 := Int.emod_eq_of_lt (by omega) (by omega)
  have HN := Lib.hid (show A % (N : Int) = A from Int.emod_eq_of_lt a1 a2)
  have z1 : ((N : Int) == 0) = false := by simp; omega
  have z2 : ¬ (N : Int) = 0 := by omega
  clear h hA hG f1 f2 pp
  by_cases c1 : A = 1
  · subst c1
    have HL : Hid (LeastE G 1 (N : Int) 0) := Lib.hid ⟨by simp, fun e' he => by omega⟩
    clear hp hnd hg
    go_enter Try.func18, Try.ntmps18
    go_wp2_with fail
    refine (HC.out _ _ (pair_new w _ _ _).1 (pair_new w _ _ _).2).mono ?_
    rintro e w1 ⟨rfl, hb1⟩
    have hB := below_two ((Below.refl w.heap.size w).alloc (Nat.le_refl _) _) hb1
    go_wp2_with fail
    refine (HGm.out _).mono ?_
    rintro e w2 ⟨rfl, rfl⟩
    go_wp2_with fail
    refine (HAm.out _).mono ?_
    rintro e w2 ⟨rfl, rfl⟩
    go_wp2
    go_ret2
    exact ⟨.inl ⟨0, HL.out, rfl⟩, hB⟩
  · have t1 : (A == 1) = false := by simpa using c1
    have tg : (G == 0) = false := by simpa using hg
    by_cases c0 : A = 0
    · subst c0
      have HL : Hid (∀ e' : Nat, (e' : Int) ≤ N → G ^ e' % (N : Int) ≠ 0 % (N : Int)) := Lib.hid fun e' hle h => by
        have hd : (N : Int) ∣ G ^ e' := Int.dvd_of_emod_eq_zero (by simpa using h)
        clear h hle
        induction e' with
        | zero =>
          have := Int.le_of_dvd (by decide) (by simpa using hd : (N : Int) ∣ 1)
          omega
        | succ e' ih =>
          rw [Int.pow_succ] at hd
          rcases hp.dvd_mul_int hd with h | h
          · exact ih h
          · exact hnd h
      clear hp hnd hg c1
      go_enter Try.func18, Try.ntmps18
      go_wp2_with fail
      refine (HC.out _ _ (pair_new w _ _ _).1 (pair_new w _ _ _).2).mono ?_
      rintro e w1 ⟨rfl, hb1⟩
      have hB := below_two ((Below.refl w.heap.size w).alloc (Nat.le_refl _) _) hb1
      go_wp2_with fail
      refine (HGm.out _).mono ?_
      rintro e w2 ⟨rfl, rfl⟩
      go_wp2_with fail
      refine (HAm.out _).mono ?_
      rintro e w2 ⟨rfl, rfl⟩
      go_wp2
      go_ret2
      exact ⟨.inr ⟨HL.out, rfl⟩, hB⟩
    · have t0 : (A == 0) = false := by simpa using c0
      have HP := Lib.hid hp
      have HD := Lib.hid hnd
      have HA1 : Hid (A % (N : Int) ≠ 1 % (N : Int)) := Lib.hid (by rw [HN.out, o2]; exact c1)
      have hmm := @run_makeMap Try.prog
      have um : Try.prog.underlying 70 = some (.map 2 2) := by kernel_rfl
      have uk : Try.prog.underlying 2 = some (.int .i64) := by kernel_rfl
      clear hp hnd hg c1 c0
      go_enter Try.func18, Try.ntmps18
      go_wp2_with fail
      refine (HC.out _ _ (pair_new w _ _ _).1 (pair_new w _ _ _).2).mono ?_
      rintro e w1 ⟨rfl, hb1⟩
      have hB := below_two ((Below.refl w.heap.size w).alloc (Nat.le_refl _) _) hb1
      go_wp2_with fail
      refine (HGm.out _).mono ?_
      rintro e w2 ⟨rfl, rfl⟩
      go_wp2_with fail
      refine (HAm.out _).mono ?_
      rintro e w2 ⟨rfl, rfl⟩
      clear hb1
      go_wp2
      go_loop [9] (fun s => ∃ S : Nat, s = .int .i64 S ∧ 1 ≤ S ∧ S ≤ 1024) (fun s => 1024 - (intOf s).toNat)
      case atStart => exact ⟨1, rfl, by omega, by omega⟩
      case round =>
        obtain ⟨S, rfl, s1, s2⟩ := hrel
        have m1 := mul_lim (a := (S : Int)) (b := S) (by omega) (by omega) (by omega) (by omega)
        have m2 : IntKind.i64.wrap ((S : Int) * S) = (S : Int) * S := IntWalk.i64_in _ (by omega)
        by_cases hlt : (S : Int) * S < N
        · have s3 : S < 1024 := by
            rcases Nat.lt_or_ge S 1024 with h | h
            · exact h
            · obtain rfl : S = 1024 := by omega
              omega
          go_wp2
          go_round
          case rel => exact ⟨S + 1, by go_num, by omega, by omega⟩
          case measure => simp [intOf]; omega
        · have HSq := Lib.hid (show (N : Int) ≤ S * S by omega)
          go_wp2
          clear m1 m2 hlt
          go_loopw [61, 11] (fun j x wr => ∃ (J : Nat) (X : Int) (D : DataW Unit), j = .int .i64 J ∧ x = .int .i64 X ∧ J ≤ S ∧ 0 ≤ X ∧ X < N ∧ Hid (X = A * G ^ J % (N : Int)) ∧ Below w1.heap.size w1 wr ∧ wr.ownsMap Try.prog 2 (plainElem Try.prog 2) w1.heap.size J D ∧ Logs (fun j => A * G ^ j % (N : Int)) D J) (fun j _ _ => S - (intOf j).toNat)
          case atStart => exact ⟨0, A, .map [], rfl, rfl, Nat.zero_le _, a1, a2, Lib.hid (by rw [Int.pow_zero, Int.mul_one, HN.out]), (Below.refl _ _).alloc (Nat.le_refl _) _, World.ownsMap_made _ _ _ _, Logs.nil _⟩
          case round =>
            obtain ⟨J, X, D, rfl, rfl, hJ, x1, x2, HX, hb, hown, hlogs⟩ := hrel
            have HLg := Lib.hid hlogs
            clear hlogs
            by_cases hlt : J < S
            · have hkey : keyOf Try.prog 2 (.int .i64 X) = some (.int .i64 X) := keyOf_int_mk uk (WalkArith.wf_i64 (by omega))
              have m1 := mul_lim (a := X) (b := G) (by omega) (by omega) (by omega) (by omega)
              have m2 : IntKind.i64.wrap (X * G) = X * G := IntWalk.i64_in _ (by omega)
              have m3 : (X * G).tmod N = X * G % N := Int.tmod_eq_emod_of_nonneg (by omega)
              go_wp2_with (first
                | (at_mapUpdate; refine wpList_mapUpdate_own _ rfl _ _ _ 70 rfl 2 2 law_log um _ w1.heap.size J _ rfl hown (by unfold maxLen; omega) _ _ _ rfl rfl hkey (.lit (.int .i64 J)) [] (plainElem_int uk (WalkArith.wf_i64 (by omega))) ?_; intro w2 hown2 hgrow2))
              go_round
              case rel => exact ⟨J + 1, X * G % N, _, by go_num, rfl, by omega, Int.emod_nonneg _ (by omega), Int.emod_lt_of_pos _ (by omega), Lib.hid (baby HX.out), hb.grown hgrow2 hb.size (fun j hj => by cases hj; exact Nat.le_refl _), hown2, by have := HLg.out.put (hown.tidy law_log); rw [← HX.out] at this; exact this⟩
              case measure => simp [intOf]; omega
            · obtain rfl : J = S := by omega
              have HTd := Lib.hid (hown.tidy law_log)
              have HPw := Lib.hid (power_Of G J N wr (by omega) (by omega) (by omega) (by omega))
              obtain ⟨LG, hLG⟩ : ∃ LG, G ^ J % (N : Int) = LG := ⟨_, rfl⟩
              have l1 : 0 ≤ LG := by rw [← hLG]; exact Int.emod_nonneg _ (by omega)
              have l2 : LG < N := by rw [← hLG]; exact Int.emod_lt_of_pos _ (by omega)
              rw [Int.toNat_natCast, hLG] at HPw
              have HLG := Lib.hid hLG
              clear hLG
              go_wp2_with fail
              refine HPw.out.mono ?_
              rintro e w3 ⟨rfl, rfl⟩
              clear HPw hlt
              go_wp2
              go_loop [15, 14] (fun i y => ∃ (K : Nat) (Y : Int), i = .int .i64 ((K : Int) + 1) ∧ y = .int .i64 Y ∧ K ≤ J ∧ 0 ≤ Y ∧ Y < N ∧ Hid (Y = G ^ (K * J) % (N : Int)) ∧ Hid (NoStep G A N J K)) (fun i _ => J + 1 - (intOf i).toNat)
              case atStart => exact ⟨0, 1, rfl, rfl, Nat.zero_le _, by omega, by omega, Lib.hid (by rw [Nat.zero_mul, Int.pow_zero, o2]), Lib.hid fun i' j h1 h2 => by omega⟩
              case round =>
                obtain ⟨K, Y, rfl, rfl, hK, y1, y2, HY, HNo⟩ := hrel
                by_cases hlt : K < J
                · have m1 := mul_lim (a := Y) (b := LG) (by omega) (by omega) (by omega) (by omega)
                  have m2 : IntKind.i64.wrap (Y * LG) = Y * LG := IntWalk.i64_in _ (by omega)
                  have m3 : (Y * LG).tmod N = Y * LG % N := Int.tmod_eq_emod_of_nonneg (by omega)
                  obtain ⟨Z, hZ⟩ : ∃ Z, Y * LG % (N : Int) = Z := ⟨_, rfl⟩
                  have n1 : 0 ≤ Z := by rw [← hZ]; exact Int.emod_nonneg _ (by omega)
                  have n2 : Z < N := by rw [← hZ]; exact Int.emod_lt_of_pos _ (by omega)
                  have HZ : Hid (Z = G ^ ((K + 1) * J) % (N : Int)) := Lib.hid (by rw [← hZ, ← HLG.out]; exact giant HY.out)
                  have hkey : keyOf Try.prog 2 (.int .i64 Z) = some (.int .i64 Z) := keyOf_int_mk uk (WalkArith.wf_i64 (by omega))
                  have c1 : (K : Int) + 1 ≤ J := by omega
                  cases hh : Maps.has D (.int .i64 Z)
                  · have HNo2 : Hid (NoStep G A N J (K + 1)) := Lib.hid fun i' j h1 h2 h3 heq => by
                      by_cases e : i' = K + 1
                      · subst e
                        exact HLg.out.no Z hh j h3 (by rw [HZ.out]; exact heq.symm)
                      · exact HNo.out i' j h1 (by omega) h3 heq
                    go_wp2_with (first
                      | (at_lookup; refine wpList_lookup_own_ok_int _ rfl _ _ 70 rfl 2 2 .i64 law_log um uk (zero_log _) w1.heap.size J _ rfl hown _ _ rfl hkey ?_; intro cc hat hwc; rw [hh]))
                    go_round
                    case rel => exact ⟨K + 1, Z, by go_num, rfl, by omega, n1, n2, HZ, HNo2⟩
                    case measure => simp [intOf]; omega
                  · obtain ⟨j, j1, j2, j3, j4⟩ := HLg.out.yes Z hh
                    have HJ3 := Lib.hid j3
                    have HF : Hid (LeastE G A N ((K + 1) * J - j)) := Lib.hid (found_least HP.out HD.out s1 (by omega) j1 HA1.out HNo.out (by rw [← HZ.out]; exact j2.symm) (fun j' k1 k2 => by rw [← HZ.out]; exact j4 j' k1 k2))
                    have q1 := mul_lim (a := (K : Int) + 1) (b := J) (by omega) (by omega) (by omega) (by omega)
                    have q2 : IntKind.i64.wrap (((K : Int) + 1) * J) = ((K : Int) + 1) * J := IntWalk.i64_in _ (by omega)
                    have q3 : j ≤ (K + 1) * J := Nat.le_trans (Nat.le_of_lt j1) (Nat.le_mul_of_pos_left J (by omega))
                    have q4 : IntKind.i64.wrap (((K : Int) + 1) * J - j) = ((K : Int) + 1) * J - j := IntWalk.i64_in _ (by omega)
                    have HE : Hid (((K : Int) + 1) * J - j = (((K + 1) * J - j : Nat) : Int)) := Lib.hid (by rw [Int.natCast_sub q3, Int.natCast_mul]; rfl)
                    clear j2 j3 j4 q3
                    go_wp2_with (first
                      | (at_lookup; refine wpList_lookup_own_ok_int _ rfl _ _ 70 rfl 2 2 .i64 law_log um uk (zero_log _) w1.heap.size J _ rfl hown _ _ rfl hkey ?_; intro cc hat hwc; rw [hh]; obtain rfl : cc = j := by have := hat.symm.trans (HJ3.out _); injection this with this; injection this))
                    go_ret2
                    refine ⟨.inl ⟨_, HF.out, ?_⟩, below_two hB hb⟩
                    rw [← HE.out]; rfl
                · obtain rfl : K = J := by omega
                  have c1 : ¬ (K : Int) + 1 ≤ K := by omega
                  go_wp2
                  go_ret2
                  refine ⟨.inr ⟨fun e' he => HNo.out.none HP.out HD.out s1 HA1.out e' ?_, rfl⟩, below_two hB hb⟩
                  have := HSq.out
                  have h3 : (e' : Int) ≤ ((K * K : Nat) : Int) := by rw [Int.natCast_mul]; omega
                  omega
end Go.Proofs.Ytceocooppjfjjaa
