/- The walk of RsaOpens. -/
import Derived.Test.YtceocooppjfjjaaRsaQ
import Derived.Laws.StructEq
namespace Go.Proofs.Ytceocooppjfjjaa
open Go.RowKit
set_option linter.unusedVariables false
set_option linter.unusedSimpArgs false
theorem opens_law {p q e d x : Int} (hk : MakeOk p q e) (d1 : 1 ≤ d) (hs : ∃ s : Nat, e.toNat * d.toNat = 1 + (Int.lcm (p - 1) (q - 1)) * s) (h0 : 0 ≤ x) (h1 : x < p * q) :
    (x ^ e.toNat % (p * q)) ^ d.toNat % (p * q) = x ∧ (x ^ d.toNat % (p * q)) ^ e.toNat % (p * q) = x := by
  obtain ⟨p1, q1, e1, p2, q2, e2, h, hb, he, hg⟩ := hk
  simp only [twoB, Bool.and_eq_true, bne_iff_ne, ne_eq] at h
  obtain ⟨⟨hp, hq⟩, hne⟩ := h
  have hpn : ((p.toNat : Nat) : Int) = p := Int.toNat_of_nonneg (by omega)
  have hqn : ((q.toNat : Nat) : Int) = q := Int.toNat_of_nonneg (by omega)
  have a := (prB_true hp).1
  have b := (prB_true hq).1
  obtain ⟨s, hs⟩ := hs
  have k1 : (p.toNat - 1) ∣ Int.lcm (p - 1) (q - 1) := by
    have h := Int.dvd_lcm_left (p - 1) (q - 1)
    apply Int.natCast_dvd_natCast.1
    rwa [show ((p.toNat - 1 : Nat) : Int) = p - 1 by omega]
  have k2 : (q.toNat - 1) ∣ Int.lcm (p - 1) (q - 1) := by
    have h := Int.dvd_lcm_right (p - 1) (q - 1)
    apply Int.natCast_dvd_natCast.1
    rwa [show ((q.toNat - 1 : Nat) : Int) = q - 1 by omega]
  have key : x ^ (e.toNat * d.toNat) % (p * q) = x := by
    have := rsa_law (prB_true hp) (prB_true hq) (fun e => hne (by omega)) x k1 k2 s hs
    rw [Int.natCast_mul, hpn, hqn] at this
    rw [this, Int.emod_eq_of_lt h0 h1]
  exact ⟨by rw [pow_twice, key], by rw [pow_twice, Nat.mul_comm, key]⟩
set_option maxRecDepth 100000 in
set_option maxHeartbeats 6400000 in
theorem WRsaOpens (a0 : Int) (a1 : Int) (a2 : Int) (a3 : Int) (w : World) (w0 : (Lit.int .i64 a0).wf = true) (w1 : (Lit.int .i64 a1).wf = true) (w2 : (Lit.int .i64 a2).wf = true) (w3 : (Lit.int .i64 a3).wf = true) :
    Calls Try.prog 11 #[.int .i64 a0, .int .i64 a1, .int .i64 a2, .int .i64 a3] w fun e w' => e = .returned (.bool true) ∧ Below w.heap.size w w' := by
  clear w0 w1 w2 w3
  by_cases hk : MakeOk a0 a1 a2
  · have HK := Lib.hid hk
    have HM := Lib.hid (rsa_Make_ok a0 a1 a2 w hk)
    obtain ⟨p1, q1, e1, p2, q2, e2, ht, hb, he, hg⟩ := hk
    have HT := Lib.hid ht
    have hpq1 : 1 * 1 ≤ a0 * a1 := Int.mul_le_mul p1 q1 (by omega) (by omega)
    obtain ⟨N, hN⟩ : ∃ N, a0 * a1 = N := ⟨_, rfl⟩
    have fN := hN
    have HN := Lib.hid hN
    unfold MakeYes at HM
    rw [hN] at HM hb he hpq1
    clear hN ht hg
    by_cases hx : 0 ≤ a3 ∧ a3 < N
    · obtain ⟨x1, x2⟩ := hx
      go_enter Try.func11, Try.ntmps11
      go_wp2_with fail
      refine HM.out.mono ?_
      rintro r w1 ⟨⟨d, d1, d2, hs, rfl⟩, hb1⟩
      have hlaw := opens_law HK.out d1 hs x1 (by rw [HN.out]; exact x2)
      rw [HN.out] at hlaw
      have ko : ∀ y, 0 ≤ y → y < N → KeyOk N a2 d y := fun y h h' => ⟨by omega, hb, e1, d1, by omega, by omega, h, h'⟩
      have y1 := Int.emod_nonneg (a3 ^ a2.toNat) (show N ≠ 0 by omega)
      have y2 := Int.emod_lt_of_pos (a3 ^ a2.toNat) (show 0 < N by omega)
      have s1 := Int.emod_nonneg (a3 ^ d.toNat) (show N ≠ 0 by omega)
      have s2 := Int.emod_lt_of_pos (a3 ^ d.toNat) (show 0 < N by omega)
      have HL1 := Lib.hid fun w => rsa_Lock N a2 d a3 w (ko a3 x1 x2)
      have HO1 := Lib.hid fun w => rsa_Open N a2 d (a3 ^ a2.toNat % N) w (ko _ y1 y2)
      have HP1 := Lib.hid fun w => rsa_Parts a0 a1 a2 d (a3 ^ a2.toNat % N) w HT.out (by rw [HN.out]; exact hb) (by rw [HN.out]; exact ko _ y1 y2)
      have HO2 := Lib.hid fun w => rsa_Open N a2 d a3 w (ko a3 x1 x2)
      have HL2 := Lib.hid fun w => rsa_Lock N a2 d (a3 ^ d.toNat % N) w (ko _ s1 s2)
      rw [HN.out, hlaw.1] at HP1
      rw [hlaw.1] at HO1
      rw [hlaw.2] at HL2
      obtain ⟨Y, hY⟩ : ∃ Y, a3 ^ a2.toNat % N = Y := ⟨_, rfl⟩
      obtain ⟨S, hS⟩ : ∃ Y, a3 ^ d.toNat % N = Y := ⟨_, rfl⟩
      rw [hY] at HL1 HO1 HP1 y1 y2
      rw [hS] at HO2 HL2 s1 s2
      clear hs hlaw ko hY hS
      have hB1 : Below w.heap.size w (w1.alloc (.cells #[.int .i64 N, .int .i64 a2, .int .i64 d] 54)) := hb1.alloc hb1.size _
      go_wp2_with fail
      refine (HL1.out _).mono ?_
      rintro r w2 ⟨rfl, hb2⟩
      have k0 := kept hb2 (b := w1.heap.size) (o := 0) (v := .int .i64 N) (by simp [go_sem]) (by simp)
      have k1 := kept hb2 (b := w1.heap.size) (o := 1) (v := .int .i64 a2) (by simp [go_sem]) (by simp)
      have k2 := kept hb2 (b := w1.heap.size) (o := 2) (v := .int .i64 d) (by simp [go_sem]) (by simp)
      have zk := World.block_lt_of_cell? w2 _ k0
      simp only at zk
      have hB2 := below_two hB1 hb2
      clear hb1 hb2 hB1
      go_wp2_with fail
      refine (HO1.out _).mono ?_
      rintro r w3 ⟨rfl, hb3⟩
      have z3 := hb3.size
      replace k0 := kept hb3 k0 zk
      replace k1 := kept hb3 k1 zk
      replace k2 := kept hb3 k2 zk
      go_wp2_with fail
      refine (HP1.out _).mono ?_
      rintro r w4 ⟨rfl, hb4⟩
      have z4 := hb4.size
      replace k0 := kept hb4 k0 (by omega)
      replace k1 := kept hb4 k1 (by omega)
      replace k2 := kept hb4 k2 (by omega)
      go_wp2_with fail
      refine (HO2.out _).mono ?_
      rintro r w5 ⟨rfl, hb5⟩
      have z5 := hb5.size
      replace k0 := kept hb5 k0 (by omega)
      replace k1 := kept hb5 k1 (by omega)
      replace k2 := kept hb5 k2 (by omega)
      go_wp2_with fail
      refine (HL2.out _).mono ?_
      rintro r w6 ⟨rfl, hb6⟩
      have z6 := hb6.size
      replace k0 := kept hb6 k0 (by omega)
      replace k1 := kept hb6 k1 (by omega)
      replace k2 := kept hb6 k2 (by omega)
      have hbf := below_two (below_two (below_two (below_two hB2 hb3) hb4) hb5) hb6
      clear hb3 hb4 hb5 hb6 hB2
      go_wp2
      go_ret
      exact ⟨ret_bool (by simp), hbf⟩
    · have hx' : a3 < 0 ∨ (¬ a3 < 0 ∧ N ≤ a3) := by omega
      clear hx
      rcases hx' with c1 | ⟨c1, c2⟩
      all_goals
        go_enter Try.func11, Try.ntmps11
        go_wp2_with fail
        refine HM.out.mono ?_
        rintro r w1 ⟨⟨d, d1, d2, hs, rfl⟩, hb1⟩
        have HL1 := Lib.hid fun w => rsa_Lock_no N a2 d a3 w (fun h => by obtain ⟨_, _, _, _, _, _, h1, h2⟩ := h; omega)
        clear hs
        have hB1 : Below w.heap.size w (w1.alloc (.cells #[.int .i64 N, .int .i64 a2, .int .i64 d] 54)) := hb1.alloc hb1.size _
        go_wp2_with fail
        refine (HL1.out _).mono ?_
        rintro r w2 ⟨rfl, hb2⟩
        have k0 := kept hb2 (b := w1.heap.size) (o := 0) (v := .int .i64 N) (by simp [go_sem]) (by simp)
        have hB2 := below_two hB1 hb2
        clear hb1 hb2 hB1
        go_wp2
        go_ret
        exact ⟨rfl, hB2⟩
  · have HM := Lib.hid (rsa_Make_no a0 a1 a2 w hk)
    clear hk
    go_enter Try.func11, Try.ntmps11
    go_wp2_with fail
    refine HM.out.mono ?_
    rintro r w1 ⟨⟨t, ht, rfl⟩, hb1⟩
    have t1 : (t == 0) = false := by simpa using ht
    have t2 : (t != 0) = true := by simpa using ht
    clear ht
    go_wp2
    go_ret
    exact ⟨ret_bool (by simp), hb1.alloc hb1.size _⟩
end Go.Proofs.Ytceocooppjfjjaa
