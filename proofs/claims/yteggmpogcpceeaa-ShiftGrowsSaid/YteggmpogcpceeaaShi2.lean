/- Contracts: shift.Run; the reference's Run, Bools. -/
import Derived.Test.YteggmpogcpceeaaShi1
import Derived.Test.YteggmpogcpceeaaOnes
import Derived.Test.YteggmpogcpceeaaShiR
namespace Go.Proofs.Yteggmpogcpceeaa
open Go.RowKit
set_option linter.unusedVariables false
set_option linter.unusedSimpArgs false
set_option maxHeartbeats 1600000 in
theorem ref_Bools (a b : Option Addr) (c d : Nat) (xs ys : List Bool) (w : World) (h1 : RowT w a c xs) (h2 : RowT w b d ys) (l1 : xs.length ≤ 1048576) (l2 : ys.length ≤ 9223372036854775807) :
    Calls Try.prog 8 #[.slice a xs.length c, .slice b ys.length d] w fun e w' => e = .returned (.bool (xs == ys)) ∧ Below w.heap.size w w' := by
  by_cases hl : xs.length = ys.length
  · obtain ⟨L, hL⟩ : ∃ L, L = xs.length := ⟨_, rfl⟩
    have HX := Lib.hid hL
    have HY : Hid (L = ys.length) := Lib.hid (hL.trans hl)
    rw [← hl]
    rw [← hL] at l1 ⊢
    clear hL hl l2
    have e1 : ((L : Int) == (L : Int)) = true := by simp
    have e2 : ((L : Int) != (L : Int)) = false := by simp
    go_enter Try.func8, Try.ntmps8
    go_wp2
    go_loopw [5] (fun i wr => ∃ I : Nat, i = .int .i64 I ∧ I ≤ L ∧ (∀ j, j < I → xs[j]? = ys[j]?) ∧ Below w.heap.size w wr) (fun i _ => L - (intOf i).toNat)
    case atStart => exact ⟨0, rfl, by omega, (fun j hj => absurd hj (Nat.not_lt_zero _)), Below.refl _ _⟩
    case round =>
      obtain ⟨I, rfl, hI, hp, hb⟩ := hrel
      by_cases hlt : I < L
      · obtain ⟨x, hx⟩ : ∃ x, xs[I]? = some x := ⟨_, List.getElem?_eq_getElem (by rw [← HX.out]; exact hlt)⟩
        obtain ⟨y, hy⟩ : ∃ x, ys[I]? = some x := ⟨_, List.getElem?_eq_getElem (by rw [← HY.out]; exact hlt)⟩
        obtain ⟨b1, o1, rfl, hc1⟩ := (h1.below hb (Nat.le_refl _)).shape (by rw [← HX.out]; omega)
        obtain ⟨b2, o2, rfl, hc2⟩ := (h2.below hb (Nat.le_refl _)).shape (by rw [← HY.out]; omega)
        have k1 := hc1 I x hx
        have k2 := hc2 I y hy
        have HPx := Lib.hid hx
        have HPy := Lib.hid hy
        clear hx hy hc1 hc2
        by_cases hxy : x = y
        · subst hxy
          have n1 : (x != x) = false := by simp
          go_wp2_with fail
          go_quiet (fail)
          go_wp2
          go_round
          case rel => exact ⟨I + 1, by go_num, by omega, (fun j hj => by
            by_cases e : j = I
            · subst e; rw [HPx.out, HPy.out]
            · exact hp j (by omega)), below_drewN hb _⟩
          case measure => simp [intOf]; omega
        · have n1 : (x == y) = false := by simpa using hxy
          have n2 : (x != y) = true := by simpa using hxy
          go_wp2_with fail
          go_quiet (fail)
          go_wp2
          go_ret
          refine ⟨ret_bool ?_, below_drewN hb _⟩
          symm
          rw [beq_eq_false_iff_ne]
          intro e
          have := HPx.out
          rw [e, HPy.out] at this
          exact hxy (Option.some.inj this).symm
      · go_wp2
        go_ret
        refine ⟨ret_bool ?_, hb⟩
        symm
        rw [beq_iff_eq]
        apply List.ext_getElem?
        intro j
        by_cases hj : j < L
        · exact hp j (by omega)
        · rw [List.getElem?_eq_none (by have := HX.out; omega), List.getElem?_eq_none (by have := HY.out; omega)]
  · have HF : Hid ((xs == ys) = false) := Lib.hid (by rw [beq_eq_false_iff_ne]; intro e; exact hl (by rw [e]))
    obtain ⟨L, hL⟩ : ∃ L, L = xs.length := ⟨_, rfl⟩
    obtain ⟨M, hM⟩ : ∃ L, L = ys.length := ⟨_, rfl⟩
    rw [← hL, ← hM] at hl ⊢
    have n1 : ((L : Int) == (M : Int)) = false := by simp; omega
    have n2 : ((L : Int) != (M : Int)) = true := by simp; omega
    have n3 : ¬ (L : Int) = M := by omega
    clear hL hM
    go_enter Try.func8, Try.ntmps8
    go_wp2
    go_ret
    exact ⟨ret_bool HF.out.symm, Below.refl _ _⟩
set_option maxHeartbeats 3200000 in
theorem ref_Run (a b : Option Addr) (c d n : Nat) (xs ys : List Bool) (w : World) (h1 : RowT w a c xs) (h2 : RowT w b d ys) (l1 : xs.length = ys.length) (l2 : xs.length ≤ n) (hn : n ≤ 64) :
    Calls Try.prog 12 #[.slice a xs.length c, .slice b ys.length d, .int .i64 n] w fun e w' => (∃ a' c', e = .returned (.slice a' n c') ∧ RowT w' a' c' (Sh.runP (fun i => xs.getD i false) (fun i => ys.getD i false) xs.length n)) ∧ Below w.heap.size w w' := by
  obtain ⟨i0, hi, hz0, hz1, hz2⟩ := info_parts bool_info
  have hu : Try.prog.underlying 22 = some (.slice 4) := by kernel_rfl
  rw [← l1]
  obtain ⟨L, hL⟩ : ∃ L, L = xs.length := ⟨_, rfl⟩
  have HX := Lib.hid hL
  have HY : Hid (L = ys.length) := Lib.hid (hL.trans l1)
  rw [← hL] at l2 ⊢
  obtain ⟨t, ht⟩ : ∃ t : Nat → Bool, (fun i => xs.getD i false) = t := ⟨_, rfl⟩
  obtain ⟨f, hf⟩ : ∃ f : Nat → Bool, (fun i => ys.getD i false) = f := ⟨_, rfl⟩
  rw [ht, hf]
  have HT := Lib.hid ht
  have HF := Lib.hid hf
  have H1 := Lib.hid h1
  have H2 := Lib.hid h2
  clear hL l1 ht hf h1 h2
  go_enter Try.func12, Try.ntmps12
  go_wp2
  go_loopw [7, 8] (fun v iv wr => ∃ I : Nat, iv = .int .i64 I ∧ I ≤ n ∧ Below w.heap.size w wr ∧ wr.ownsRow w.heap.size 4 1 v I (bV (Sh.runP t f L I))) (fun _ iv _ => (n - (intOf iv).toNat))
  case atStart => exact ⟨0, rfl, Nat.zero_le _, Below.refl _ _, World.ownsRow_nil _ _ _ _⟩
  case round =>
    obtain ⟨I, rfl, hI, hb, ho⟩ := hrel
    have hz := hb.size
    by_cases hlt : I < n
    · have HE : Hid (bV (Sh.runP t f L I) ++ [.bool (Sh.runB t f L I (Sh.runP t f L I))] = bV (Sh.runP t f L (I + 1))) := Lib.hid (by
        show _ = bV (_ ++ _)
        unfold bV; rw [List.map_append]; rfl)
      have HRL := Lib.hid (Sh.runP_len t f L I)
      have HRB : Hid (Sh.runB t f L I (Sh.runP t f L I) = if I < L then f I else Sh.dot t (fun i => (Sh.runP t f L I).getD (I - 1 - i) false) L) := Lib.hid rfl
      obtain ⟨r, hr⟩ : ∃ r, Sh.runP t f L I = r := ⟨_, rfl⟩
      rw [hr] at HE ho HRL HRB
      obtain ⟨y, hy⟩ : ∃ y, Sh.runB t f L I r = y := ⟨_, rfl⟩
      rw [hy] at HE HRB
      clear hr hy
      by_cases hc : I < L
      · have HY1 : Hid (y = f I) := Lib.hid (by rw [HRB.out, if_pos hc])
        obtain ⟨x, hx⟩ : ∃ x, ys[I]? = some x := ⟨_, List.getElem?_eq_getElem (by rw [← HY.out]; omega)⟩
        have hxy : x = y := by rw [HY1.out, ← HF.out]; simp [List.getD_eq_getElem?_getD, hx]
        subst hxy
        obtain ⟨b1, o1, rfl, hc1⟩ := (H2.out.below hb (Nat.le_refl _)).shape (by rw [← HY.out]; omega)
        have k1 := hc1 I x hx
        clear hc1 hx
        go_wp2_with (first
          | (at_builtin; refine wpList_append_own _ rfl _ _ 22 rfl w.heap.size 4 i0 (.bool false) 1 1 hu hi hz0 hz1 hz2 rfl (by decide) _ _ _ rfl (ho.alloc _) ⟨wr.heap.size, 0, none⟩ 1 1 [.bool x] rfl rfl (cell_newT _ _ _ rfl) (by simp [Value.oneCell']) (by unfold maxLen; omega) (by omega) (by simp; omega) ?_; intro v' w2 hown' hg2 hnil2; have kk2 := ((hb.alloc hz (.cells #[.bool x] 4)).grown hg2 (by simp; omega) (fun j hj => (ho.lt j hj).1))))
        go_roundw
        case rel => exact ⟨I + 1, by go_num, by omega, kk2, by rw [HE.out] at hown'; exact hown'⟩
        case measure => simp [intOf]; omega
      · have HY1 : Hid (y = Sh.dot t (fun i => r.getD (I - 1 - i) false) L) := Lib.hid (by rw [HRB.out, if_neg hc])
        go_wp2
        go_loop [9, 10] (fun bv kv => ∃ K : Nat, kv = .int .i64 K ∧ K ≤ L ∧ bv = .bool (Sh.dot t (fun i => r.getD (I - 1 - i) false) K)) (fun _ kv => (L - (intOf kv).toNat))
        case atStart => exact ⟨0, rfl, Nat.zero_le _, rfl⟩
        case round =>
          obtain ⟨K, rfl, hK, rfl⟩ := hrel
          by_cases hkl : K < L
          · have HD : Hid (Sh.dot t (fun i => r.getD (I - 1 - i) false) (K + 1) = Bool.xor (Sh.dot t (fun i => r.getD (I - 1 - i) false) K) (t K && r.getD (I - 1 - K) false)) := Lib.hid rfl
            obtain ⟨q, hq⟩ : ∃ q, Sh.dot t (fun i => r.getD (I - 1 - i) false) K = q := ⟨_, rfl⟩
            rw [hq] at HD ⊢
            clear hq
            obtain ⟨x, hx⟩ : ∃ x, xs[K]? = some x := ⟨_, List.getElem?_eq_getElem (by rw [← HX.out]; omega)⟩
            have HTK : Hid (t K = x) := Lib.hid (by rw [← HT.out]; simp [List.getD_eq_getElem?_getD, hx])
            obtain ⟨b1, o1, rfl, hc1⟩ := (H1.out.below hb (Nat.le_refl _)).shape (by rw [← HX.out]; omega)
            have k1 := hc1 K x hx
            obtain ⟨g, cp, rfl, hg⟩ := own_shape ho (by omega)
            obtain ⟨z, hzz⟩ : ∃ z, r[I - 1 - K]? = some z := ⟨_, List.getElem?_eq_getElem (by rw [HRL.out]; omega)⟩
            have k2 := own_cell ho (i := I - 1 - K) (u := .bool z) (by simp [bV, hzz])
            have HRK : Hid (r.getD (I - 1 - K) false = z) := Lib.hid (by simp [List.getD_eq_getElem?_getD, hzz])
            have m1 : IntKind.i64.wrap ((I : Int) - K) = (I : Int) - K := IntWalk.i64_in _ (by omega)
            have m2 : IntKind.i64.wrap ((I : Int) - K - 1) = ((I - 1 - K : Nat) : Int) := by rw [IntWalk.i64_in _ (by omega)]; omega
            have m3 : ((I - 1 - K : Nat) : Int) < I := by omega
            have m4 : I - 1 - K < I := by omega
            obtain ⟨J, hJ⟩ : ∃ J, I - 1 - K = J := ⟨_, rfl⟩
            rw [hJ] at m2 m3 m4 k2 HRK HD
            clear hc1 hx hzz hJ
            cases x
            · go_wp2
              go_round
              case rel => exact ⟨K + 1, by go_num, by omega, by rw [HD.out, HTK.out]; cases q <;> rfl⟩
              case measure => simp [intOf]; omega
            · cases z
              · go_wp2
                go_round
                case rel => exact ⟨K + 1, by go_num, by omega, by rw [HD.out, HTK.out, HRK.out]; cases q <;> rfl⟩
                case measure => simp [intOf]; omega
              · go_wp2
                go_round
                case rel => exact ⟨K + 1, by go_num, by omega, by rw [HD.out, HTK.out, HRK.out]; cases q <;> rfl⟩
                case measure => simp [intOf]; omega
          · obtain rfl : K = L := by omega
            have HY2 := Lib.hid HY1.out.symm
            obtain ⟨q, hq⟩ : ∃ q, Sh.dot t (fun i => r.getD (I - 1 - i) false) K = q := ⟨_, rfl⟩
            rw [hq] at HY1 ⊢
            have hqy : q = y := HY1.out.symm
            subst hqy
            clear hq
            go_wp2_with (first
              | (at_builtin; refine wpList_append_own _ rfl _ _ 22 rfl w.heap.size 4 i0 (.bool false) 1 1 hu hi hz0 hz1 hz2 rfl (by decide) _ _ _ rfl (ho.alloc _) ⟨wr.heap.size, 0, none⟩ 1 1 [.bool q] rfl rfl (cell_newT _ _ _ rfl) (by simp [Value.oneCell']) (by unfold maxLen; omega) (by omega) (by simp; omega) ?_; intro v' w2 hown' hg2 hnil2; have kk2 := ((hb.alloc hz (.cells #[.bool q] 4)).grown hg2 (by simp; omega) (fun j hj => (ho.lt j hj).1))))
            go_roundw
            case rel => exact ⟨I + 1, by go_num, by omega, kk2, by rw [HE.out] at hown'; exact hown'⟩
            case measure => simp [intOf]; omega
    · obtain rfl : I = n := by omega
      have hl := Sh.runP_len t f L I
      obtain ⟨a', c', he, hrow⟩ := own_rowT (xs := Sh.runP t f L I) (by rw [hl]; exact ho)
      rw [hl] at he
      subst he
      go_wp2
      go_ret
      exact ⟨⟨a', c', rfl, hrow⟩, hb⟩
end Go.Proofs.Yteggmpogcpceeaa
