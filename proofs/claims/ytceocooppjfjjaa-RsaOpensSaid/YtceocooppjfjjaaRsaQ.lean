/- The contracts of rsa.Open, rsa.Parts. -/
import Derived.Test.YtceocooppjfjjaaRsaP
import Derived.Test.YtceocooppjfjjaaCrtS
import Derived.Test.YtceocooppjfjjaaPrF
namespace Go.Proofs.Ytceocooppjfjjaa
open Go.RowKit
set_option linter.unusedVariables false
set_option linter.unusedSimpArgs false
set_option maxHeartbeats 800000 in
theorem rsa_Open (N E D x : Int) (w : World) (h : KeyOk N E D x) :
    Calls Try.prog 32 #[.agg #[.int .i64 N, .int .i64 E, .int .i64 D], .int .i64 x] w fun e w' => e = .returned (.tuple #[.int .i64 (x ^ D.toNat % N), .int .i64 0]) ∧ Below w.heap.size w w' := by
  have H := Lib.hid h
  obtain ⟨h1, h2, h3, h4, h5, h6, h7, h8⟩ := h
  go_enter Try.func32, Try.ntmps32
  go_wp2_with fail
  refine (rsa_turn _ _ _ _ _ _ H.out (by omega) (by omega)).mono ?_
  rintro e w1 ⟨rfl, hb⟩
  go_wp2
  go_ret2
  exact ⟨rfl, ((Below.refl _ _).alloc (Nat.le_refl _) _).trans (hb.mono (by simp))⟩
/-- the two congruences of Parts have one solution -/
theorem parts_sol {p q : Nat} (hp : M.Pr p) (hq : M.Pr q) (hne : p ≠ q) {y x1 x2 : Int} {D : Nat} (d1 : (p : Int) ∣ x1 - y ^ D) (d2 : (q : Int) ∣ x2 - y ^ D) {A M' : Int} (h : CInv [(x1, (p : Int)), (x2, (q : Int))] A M') : A = y ^ D % ((p * q : Nat) : Int) := by
  have f : FitsAll [(x1, (p : Int)), (x2, (q : Int))] (y ^ D) := by
    intro v hv
    simp at hv
    rcases hv with rfl | rfl
    · have := (Int.dvd_neg).2 d1; rwa [Int.neg_sub] at this
    · have := (Int.dvd_neg).2 d2; rwa [Int.neg_sub] at this
  have hd := (h.fit _).1 f
  have hM : M' = ((p * q : Nat) : Int) := by
    have m0 := h.m1
    have e := h.lc
    have a : M' ∣ ((p * q : Nat) : Int) := by
      rw [e]
      refine (lcmI_dvd_iff _ 1).2 ⟨Int.one_dvd _, fun v hv => ?_⟩
      simp at hv
      rcases hv with rfl | rfl
      · rw [Int.natCast_mul]; exact Int.dvd_mul_right _ _
      · rw [Int.natCast_mul]; exact Int.dvd_mul_left _ _
    have b : ((p * q : Nat) : Int) ∣ M' := by
      have k := ((lcmI_dvd_iff [(x1, (p : Int)), (x2, (q : Int))] 1 (c := M')).1 (by rw [e]; exact Int.dvd_refl _)).2
      exact two_dvd hp hq hne (k (x1, (p : Int)) (by simp)) (k (x2, (q : Int)) (by simp))
    have c : 1 ≤ ((p * q : Nat) : Int) := by have := Nat.mul_pos hp.pos hq.pos; omega
    exact Int.le_antisymm (Int.le_of_dvd (by omega) a) (Int.le_of_dvd (by omega) b)
  rw [← hM]
  have := Int.emod_eq_emod_iff_emod_sub_eq_zero.2 (Int.emod_eq_zero_of_dvd hd)
  rw [this, Int.emod_eq_of_lt h.a0 h.am]
theorem parts_fits {p q : Nat} {y x1 x2 : Int} {D : Nat} (d1 : (p : Int) ∣ x1 - y ^ D) (d2 : (q : Int) ∣ x2 - y ^ D) : FitsAll [(x1, (p : Int)), (x2, (q : Int))] (y ^ D) := by
  intro v hv
  simp at hv
  rcases hv with rfl | rfl
  · have := (Int.dvd_neg).2 d1; rwa [Int.neg_sub] at this
  · have := (Int.dvd_neg).2 d2; rwa [Int.neg_sub] at this
theorem parts_rests {p q : Int} {x1 x2 : Int} (p1 : 1 ≤ p) (p2 : p ≤ 1048576) (q1 : 1 ≤ q) (q2 : q ≤ 1048576) (h1 : 0 ≤ x1 ∧ x1 < p) (h2 : 0 ≤ x2 ∧ x2 < q) (hpq : p * q ≤ 1048576) : restsE [(x1, p), (x2, q)] = 0 := by
  have hl : lcmI 1 [(x1, p), (x2, q)] ≤ p * q := by
    refine Int.le_of_dvd ?_ ((lcmI_dvd_iff _ 1).2 ⟨Int.one_dvd _, fun v hv => ?_⟩)
    · have : 1 * 1 ≤ p * q := Int.mul_le_mul p1 q1 (by omega) (by omega)
      omega
    · simp at hv
      rcases hv with rfl | rfl
      · exact Int.dvd_mul_right _ _
      · exact Int.dvd_mul_left _ _
  unfold restsE
  rw [if_neg (by simp), if_neg (by simp [badR]; omega), if_neg (by omega)]
theorem parts_exp {p D : Int} (hp : 2 ≤ p) (hD : 1 ≤ D) : 0 ≤ D % (p - 1) ∧ D % (p - 1) < p - 1 ∧ (D % (p - 1) + p - 1).toNat = D.toNat % (p.toNat - 1) + (p.toNat - 1) := by
  have a := Int.emod_nonneg D (show p - 1 ≠ 0 by omega)
  have b := Int.emod_lt_of_pos D (show 0 < p - 1 by omega)
  refine ⟨a, b, ?_⟩
  have e : ((D.toNat % (p.toNat - 1) : Nat) : Int) = D % (p - 1) := by
    rw [Int.natCast_emod, Int.toNat_of_nonneg (by omega), show ((p.toNat - 1 : Nat) : Int) = p - 1 by omega]
  omega
theorem rest_info : (Try.prog.info? 46).map (fun i => (i.zero, i.size, i.bytes)) = some (some (.agg #[.int .i64 0, .int .i64 0]), 2, 16) := by kernel_rfl
set_option maxRecDepth 100000 in
set_option maxHeartbeats 6400000 in
theorem rsa_Parts (p q E D y : Int) (w : World) (ht : twoB p q = true) (hpq : p * q ≤ 1048576) (hk : KeyOk (p * q) E D y) :
    Calls Try.prog 33 #[.int .i64 p, .int .i64 q, .agg #[.int .i64 (p * q), .int .i64 E, .int .i64 D], .int .i64 y] w fun e w' => e = .returned (.tuple #[.int .i64 (y ^ D.toNat % (p * q)), .int .i64 0]) ∧ Below w.heap.size w w' := by
  have ht' := ht
  simp only [twoB, Bool.and_eq_true, bne_iff_ne, ne_eq] at ht'
  obtain ⟨⟨hp, hq⟩, hne⟩ := ht'
  have a := (prB_true hp).1
  have b := (prB_true hq).1
  have p1 : 2 ≤ p := by omega
  have q1 : 2 ≤ q := by omega
  have p2 : p ≤ 1048576 := by
    have := Int.mul_le_mul_of_nonneg_left (show 1 ≤ q by omega) (show 0 ≤ p by omega)
    omega
  have q2 : q ≤ 1048576 := by
    have := Int.mul_le_mul_of_nonneg_right (show 1 ≤ p by omega) (show 0 ≤ q by omega)
    omega
  have HT := Lib.hid fun w => rsa_two p q w (by omega) p2 (by omega) q2
  rw [ht] at HT
  have HO := Lib.hid fun w => rsa_Open (p * q) E D y w hk
  obtain ⟨_, _, e1, d1, e2, d2, y1, y2⟩ := hk
  obtain ⟨u1, u2, u3⟩ := parts_exp p1 d1
  obtain ⟨v1, v2, v3⟩ := parts_exp q1 d1
  have dvp : p ∣ y ^ (D % (p - 1) + p - 1).toNat % p - y ^ D.toNat := by
    have := parts_pow (prB_true hp) y (D := D.toNat) (by omega)
    rw [← u3, Int.toNat_of_nonneg (show 0 ≤ p by omega)] at this; exact this
  have dvq : q ∣ y ^ (D % (q - 1) + q - 1).toNat % q - y ^ D.toNat := by
    have := parts_pow (prB_true hq) y (D := D.toNat) (by omega)
    rw [← v3, Int.toNat_of_nonneg (show 0 ≤ q by omega)] at this; exact this
  have HX1 := Lib.hid fun w => power_Of y (D % (p - 1) + p - 1) p w (by omega) (by omega) (by omega) p2
  have HX2 := Lib.hid fun w => power_Of y (D % (q - 1) + q - 1) q w (by omega) (by omega) (by omega) q2
  have r1 := Int.emod_nonneg (y ^ (D % (p - 1) + p - 1).toNat) (show p ≠ 0 by omega)
  have r2 := Int.emod_lt_of_pos (y ^ (D % (p - 1) + p - 1).toNat) (show 0 < p by omega)
  have r3 := Int.emod_nonneg (y ^ (D % (q - 1) + q - 1).toNat) (show q ≠ 0 by omega)
  have r4 := Int.emod_lt_of_pos (y ^ (D % (q - 1) + q - 1).toNat) (show 0 < q by omega)
  obtain ⟨x1, hx1⟩ : ∃ x1, y ^ (D % (p - 1) + p - 1).toNat % p = x1 := ⟨_, rfl⟩
  obtain ⟨x2, hx2⟩ : ∃ x2, y ^ (D % (q - 1) + q - 1).toNat % q = x2 := ⟨_, rfl⟩
  rw [hx1] at HX1 r1 r2 dvp
  rw [hx2] at HX2 r3 r4 dvq
  have hRe := parts_rests (x1 := x1) (x2 := x2) (show 1 ≤ p by omega) p2 (show 1 ≤ q by omega) q2 ⟨r1, r2⟩ ⟨r3, r4⟩ hpq
  have HSol : Hid (∀ (w w' : World) (e : Ending), SolP [(x1, p), (x2, q)] w e w' → (∃ M' : Int, e = .returned (.tuple #[.agg #[.int .i64 (y ^ D.toNat % (p * q)), .int .i64 M'], .int .i64 0])) ∧ Below w.heap.size w w') := Lib.hid fun w w' e h => by
    have hpn : ((p.toNat : Nat) : Int) = p := Int.toNat_of_nonneg (by omega)
    have hqn : ((q.toNat : Nat) : Int) = q := Int.toNat_of_nonneg (by omega)
    obtain ⟨⟨A, M', hC, rfl⟩ | ⟨hN, _⟩, hb⟩ := h
    · have := parts_sol (prB_true hp) (prB_true hq) (fun e' => hne (by omega)) (y := y) (x1 := x1) (x2 := x2) (D := D.toNat) (by rw [hpn]; exact dvp) (by rw [hqn]; exact dvq) (A := A) (M' := M') (by rw [hpn, hqn]; exact hC)
      rw [Int.natCast_mul, hpn, hqn] at this
      rw [← this]
      exact ⟨⟨M', rfl⟩, hb⟩
    · refine (hN (y ^ D.toNat) ?_).elim
      have := parts_fits (p := p.toNat) (q := q.toNat) (y := y) (x1 := x1) (x2 := x2) (D := D.toNat) (by rw [hpn]; exact dvp) (by rw [hqn]; exact dvq)
      rwa [hpn, hqn] at this
  have ix0 : ∀ w, (Instr.index 87 (.agg #[.int .i64 p, .int .i64 q]) (.int .i64 0)).run Try.prog w = .ok (.int .i64 p) w := fun _ => by kernel_rfl
  have ix1 : ∀ w, (Instr.index 87 (.agg #[.int .i64 p, .int .i64 q]) (.int .i64 1)).run Try.prog w = .ok (.int .i64 q) w := fun _ => by kernel_rfl
  obtain ⟨i0, hi, hz0, hz1, hz2⟩ := info_parts rest_info
  have hu1 : Try.prog.underlying 44 = some (.slice 46) := by kernel_rfl
  have HRe := Lib.hid hRe
  have hlt : p < q ∨ q < p := by omega
  clear ht hp hq hne a b u3 v3 dvp dvq hx1 hx2 hRe
  obtain ⟨N, hN⟩ : ∃ N, p * q = N := ⟨_, rfl⟩
  have fN := hN
  rw [hN] at HO hpq y2 HSol ⊢
  clear hN
  rcases hlt with hle | hle
  all_goals
    go_enter Try.func33, Try.ntmps33
    go_wp2_with fail
    refine (HO.out _).mono ?_
    rintro r w1 ⟨rfl, hb1⟩
    have z1 := hb1.size
    simp at z1
    have k0 := kept hb1 (b := w.heap.size) (o := 0) (v := .int .i64 N) (by simp [go_sem]) (by simp)
    have k2 := kept hb1 (b := w.heap.size) (o := 2) (v := .int .i64 D) (by simp [go_sem]) (by simp)
    have hB1 := below_two ((Below.refl w.heap.size w).alloc (Nat.le_refl _) _) hb1
    clear hb1
    go_wp2_with fail
    refine (HT.out _).mono ?_
    rintro r w2 ⟨rfl, hb2⟩
    have z2 := hb2.size
    replace k0 := kept hb2 k0 (by omega)
    replace k2 := kept hb2 k2 (by omega)
    have hB2 := below_two hB1 hb2
    clear hb2 hB1
    go_wp2
    go_loopw [47, 12] (fun i v wr => ((i = .int .i64 0 ∧ v = .slice none 0 0) ∨ (i = .int .i64 1 ∧ wr.ownsRow w2.heap.size 46 2 v 1 (flatI [(x1, p)])) ∨ (i = .int .i64 2 ∧ wr.ownsRow w2.heap.size 46 2 v 2 (flatI [(x1, p), (x2, q)]))) ∧ Below w2.heap.size w2 wr) (fun i _ _ => 2 - (intOf i).toNat)
    case atStart => exact ⟨.inl ⟨rfl, rfl⟩, Below.refl _ _⟩
    case round =>
      obtain ⟨hcase, hb⟩ := hrel
      have m2 := kept hb k2 (by omega)
      have zr := hb.size
      have Hb := Lib.hid hb
      clear hb
      rcases hcase with ⟨rfl, rfl⟩ | ⟨rfl, hr⟩ | ⟨rfl, hr⟩
      · go_wp2_with fail
        refine (HX1.out _).mono ?_
        rintro r w3 ⟨rfl, rfl⟩
        go_wp2_with (at_builtin; refine wpList_append_own _ rfl _ _ 44 rfl w2.heap.size 46 i0 (.agg #[.int .i64 0, .int .i64 0]) 2 16 hu1 hi hz0 hz1 hz2 rfl (by decide) _ _ _ rfl (World.ownsRow_nil _ _ _ _) ⟨wr.heap.size, 0, none⟩ 1 1 [.int .i64 x1, .int .i64 p] rfl rfl (cell_two_new wr (.int .i64 x1) (.int .i64 p) 46) (by simp [Value.oneCell']) (by unfold maxLen; omega) (by omega) (by simp; omega) ?_; intro v5 w5 ho5 hg5 hnil5)
        have hb5 : Below w2.heap.size w2 w5 := (Hb.out.alloc Hb.out.size _).grown hg5 (by simp; omega) (fun j hj => by cases hj)
        go_round
        case rel => exact ⟨.inr (.inl ⟨by go_num, ho5⟩), hb5⟩
        case measure => simp [intOf]
      · go_wp2_with fail
        refine (HX2.out _).mono ?_
        rintro r w3 ⟨rfl, rfl⟩
        go_wp2_with (at_builtin; refine wpList_append_own _ rfl _ _ 44 rfl w2.heap.size 46 i0 (.agg #[.int .i64 0, .int .i64 0]) 2 16 hu1 hi hz0 hz1 hz2 rfl (by decide) _ _ _ rfl (hr.alloc _) ⟨wr.heap.size, 0, none⟩ 1 1 [.int .i64 x2, .int .i64 q] rfl rfl (cell_two_new wr (.int .i64 x2) (.int .i64 q) 46) (by simp [Value.oneCell']) (by unfold maxLen; omega) (by omega) (by simp; omega) ?_; intro v5 w5 ho5 hg5 hnil5)
        have hb5 : Below w2.heap.size w2 w5 := (Hb.out.alloc Hb.out.size _).grown hg5 (by simp; omega) (fun j hj => (hr.lt j hj).1)
        go_round
        case rel => exact ⟨.inr (.inr ⟨by go_num, ho5⟩), hb5⟩
        case measure => simp [intOf]
      · obtain ⟨a5, c5, rfl, h5⟩ := own_rowP (pts := [(x1, p), (x2, q)]) hr
        have HS5 := Lib.hid (crt_Solve a5 c5 [(x1, p), (x2, q)] wr h5 (L := 2) rfl HRe.out)
        simp only [List.length_cons, List.length_nil, Nat.zero_add]
        clear hr h5
        go_wp2_with fail
        refine HS5.out.mono ?_
        intro r w6 hsol
        obtain ⟨⟨M', rfl⟩, hb6⟩ := HSol.out _ _ _ hsol
        have hbf := below_two (below_two hB2 Hb.out) hb6
        clear hsol
        go_wp2
        go_ret2
        exact ⟨rfl, hbf.alloc hbf.size _⟩
end Go.Proofs.Ytceocooppjfjjaa
