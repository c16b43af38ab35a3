/- The contracts of rsa.two, rsa.Make. -/
import Derived.Test.YtceocooppjfjjaaRsaM
import Derived.Test.YtceocooppjfjjaaRsa
import Derived.Test.YtceocooppjfjjaaPrC
import Derived.Test.YtceocooppjfjjaaCrt
import Derived.WalkLawsBesides
namespace Go.Proofs.Ytceocooppjfjjaa
open Go.RowKit
set_option linter.unusedVariables false
set_option linter.unusedSimpArgs false
/-- are both primes, and not the same -/
noncomputable def twoB (p q : Int) : Bool := prB p && prB q && (p != q)
set_option maxHeartbeats 800000 in
theorem rsa_two (p q : Int) (w : World) (p1 : 1 ≤ p) (p2 : p ≤ 1048576) (q1 : 1 ≤ q) (q2 : q ≤ 1048576) :
    Calls Try.prog 56 #[.int .i64 p, .int .i64 q] w fun e w' => e = .returned (.bool (twoB p q)) ∧ Below w.heap.size w w' := by
  have HP := Lib.hid fun w => primes_Is_in p w p1 p2
  have HQ := Lib.hid fun w => primes_Is_in q w q1 q2
  unfold twoB
  obtain ⟨a, ha⟩ : ∃ a, prB p = a := ⟨_, rfl⟩
  obtain ⟨b, hb⟩ : ∃ b, prB q = b := ⟨_, rfl⟩
  rw [ha] at HP ⊢
  rw [hb] at HQ ⊢
  clear ha hb
  cases a <;> cases b
  all_goals
    go_enter Try.func56, Try.ntmps56
    go_wp2_with fail
    refine (HP.out _).mono ?_
    rintro e w1 ⟨rfl, hb1⟩
    go_wp2_with fail
    refine (HQ.out _).mono ?_
    rintro e w2 ⟨rfl, hb2⟩
    go_wp2
    go_ret
    exact ⟨ret_bool (by simp), below_two hb1 hb2⟩
/-- is a key made of these -/
def MakeOk (p q e : Int) : Prop := 1 ≤ p ∧ 1 ≤ q ∧ 1 ≤ e ∧ p ≤ 1048576 ∧ q ≤ 1048576 ∧ e ≤ 1048576 ∧ twoB p q = true ∧ p * q ≤ 1048576 ∧ e ≤ p * q ∧ Int.gcd e (Int.lcm (p - 1) (q - 1)) = 1
def MakeNo (w : World) (r : Ending) (w' : World) : Prop := (∃ t : Int, t ≠ 0 ∧ r = .returned (.tuple #[.agg #[.int .i64 0, .int .i64 0, .int .i64 0], .int .i64 t])) ∧ Below w.heap.size w w'
set_option maxRecDepth 20000 in
set_option maxHeartbeats 3200000 in
theorem rsa_Make_low (p q e : Int) (w : World) (h : p < 1 ∨ q < 1 ∨ e < 1) :
    Calls Try.prog 30 #[.int .i64 p, .int .i64 q, .int .i64 e] w (MakeNo w) := by
  go_enter Try.func30, Try.ntmps30
  go_wp2
  all_goals
    refine bodyPost_ret (v := .tuple #[.agg #[.int .i64 0, .int .i64 0, .int .i64 0], .int .i64 2]) (by simp [results, Try.f30, go_sem]) rfl ⟨⟨2, by decide, rfl⟩, (Below.refl _ _).alloc (Nat.le_refl _) _⟩
set_option maxRecDepth 20000 in
set_option maxHeartbeats 3200000 in
theorem rsa_Make_high (p q e : Int) (w : World) (p1 : 1 ≤ p) (q1 : 1 ≤ q) (e1 : 1 ≤ e) (h : 1048576 < p ∨ 1048576 < q ∨ 1048576 < e) :
    Calls Try.prog 30 #[.int .i64 p, .int .i64 q, .int .i64 e] w (MakeNo w) := by
  go_enter Try.func30, Try.ntmps30
  go_wp2
  all_goals
    refine bodyPost_ret (v := .tuple #[.agg #[.int .i64 0, .int .i64 0, .int .i64 0], .int .i64 2]) (by simp [results, Try.f30, go_sem]) rfl ⟨⟨2, by decide, rfl⟩, (Below.refl _ _).alloc (Nat.le_refl _) _⟩
set_option maxRecDepth 20000 in
set_option maxHeartbeats 3200000 in
theorem rsa_Make_two (p q e : Int) (w : World) (p1 : 1 ≤ p) (q1 : 1 ≤ q) (e1 : 1 ≤ e) (p2 : p ≤ 1048576) (q2 : q ≤ 1048576) (e2 : e ≤ 1048576) (h : twoB p q = false) :
    Calls Try.prog 30 #[.int .i64 p, .int .i64 q, .int .i64 e] w (MakeNo w) := by
  have HT := Lib.hid fun w => rsa_two p q w p1 p2 q1 q2
  rw [h] at HT
  clear h
  go_enter Try.func30, Try.ntmps30
  go_wp2_with fail
  all_goals
    refine (HT.out _).mono ?_
    rintro r w1 ⟨rfl, hb1⟩
    have hB := below_two ((Below.refl w.heap.size w).alloc (Nat.le_refl _) _) hb1
    have r0 := kept hb1 (b := w.heap.size) (o := 0) (v := .int .i64 0) (by simp [go_sem]) (by simp)
    have r1 := kept hb1 (b := w.heap.size) (o := 1) (v := .int .i64 0) (by simp [go_sem]) (by simp)
    have r2 := kept hb1 (b := w.heap.size) (o := 2) (v := .int .i64 0) (by simp [go_sem]) (by simp)
    have s0 := (hb1.frozen (p := ⟨w.heap.size, 0, none⟩) (by simp [go_sem])).trans (show _ = false by simp [go_sem])
    have s1 := (hb1.frozen (p := ⟨w.heap.size, 1, none⟩) (by simp [go_sem])).trans (show _ = false by simp [go_sem])
    have s2 := (hb1.frozen (p := ⟨w.heap.size, 2, none⟩) (by simp [go_sem])).trans (show _ = false by simp [go_sem])
    go_wp2
    refine bodyPost_ret (v := .tuple #[.agg #[.int .i64 0, .int .i64 0, .int .i64 0], .int .i64 3]) (by simp [results, Try.f30, go_sem, r0, r1, r2]) rfl ⟨⟨3, by decide, rfl⟩, ((hB.setCell (by simp) _).setCell (by simp) _).setCell (by simp) _⟩
set_option maxRecDepth 20000 in
set_option maxHeartbeats 3200000 in
theorem rsa_Make_big (p q e : Int) (w : World) (p1 : 1 ≤ p) (q1 : 1 ≤ q) (e1 : 1 ≤ e) (p2 : p ≤ 1048576) (q2 : q ≤ 1048576) (e2 : e ≤ 1048576) (h : twoB p q = true) (hb : 1048576 < p * q) :
    Calls Try.prog 30 #[.int .i64 p, .int .i64 q, .int .i64 e] w (MakeNo w) := by
  have HT := Lib.hid fun w => rsa_two p q w p1 p2 q1 q2
  rw [h] at HT
  clear h
  have hpq : p * q ≤ 1048576 * 1048576 := Int.mul_le_mul p2 q2 (by omega) (by omega)
  go_enter Try.func30, Try.ntmps30
  go_wp2_with fail
  all_goals
    refine (HT.out _).mono ?_
    rintro r w1 ⟨rfl, hb1⟩
    have hB := below_two ((Below.refl w.heap.size w).alloc (Nat.le_refl _) _) hb1
    have r0 := kept hb1 (b := w.heap.size) (o := 0) (v := .int .i64 0) (by simp [go_sem]) (by simp)
    have r1 := kept hb1 (b := w.heap.size) (o := 1) (v := .int .i64 0) (by simp [go_sem]) (by simp)
    have r2 := kept hb1 (b := w.heap.size) (o := 2) (v := .int .i64 0) (by simp [go_sem]) (by simp)
    have s0 := (hb1.frozen (p := ⟨w.heap.size, 0, none⟩) (by simp [go_sem])).trans (show _ = false by simp [go_sem])
    have s1 := (hb1.frozen (p := ⟨w.heap.size, 1, none⟩) (by simp [go_sem])).trans (show _ = false by simp [go_sem])
    have s2 := (hb1.frozen (p := ⟨w.heap.size, 2, none⟩) (by simp [go_sem])).trans (show _ = false by simp [go_sem])
    go_wp2
    refine bodyPost_ret (v := .tuple #[.agg #[.int .i64 0, .int .i64 0, .int .i64 0], .int .i64 1]) (by simp [results, Try.f30, go_sem, r0, r1, r2]) rfl ⟨⟨1, by decide, rfl⟩, ((hB.setCell (by simp) _).setCell (by simp) _).setCell (by simp) _⟩
set_option maxRecDepth 20000 in
set_option maxHeartbeats 3200000 in
theorem rsa_Make_over (p q e : Int) (w : World) (p1 : 1 ≤ p) (q1 : 1 ≤ q) (e1 : 1 ≤ e) (p2 : p ≤ 1048576) (q2 : q ≤ 1048576) (e2 : e ≤ 1048576) (h : twoB p q = true) (hb : p * q ≤ 1048576) (he : p * q < e) :
    Calls Try.prog 30 #[.int .i64 p, .int .i64 q, .int .i64 e] w (MakeNo w) := by
  have HT := Lib.hid fun w => rsa_two p q w p1 p2 q1 q2
  rw [h] at HT
  clear h
  have hpq0 : 1 * 1 ≤ p * q := Int.mul_le_mul p1 q1 (by omega) (by omega)
  go_enter Try.func30, Try.ntmps30
  go_wp2_with fail
  all_goals
    refine (HT.out _).mono ?_
    rintro r w1 ⟨rfl, hb1⟩
    have hB := below_two ((Below.refl w.heap.size w).alloc (Nat.le_refl _) _) hb1
    have r0 := kept hb1 (b := w.heap.size) (o := 0) (v := .int .i64 0) (by simp [go_sem]) (by simp)
    have r1 := kept hb1 (b := w.heap.size) (o := 1) (v := .int .i64 0) (by simp [go_sem]) (by simp)
    have r2 := kept hb1 (b := w.heap.size) (o := 2) (v := .int .i64 0) (by simp [go_sem]) (by simp)
    have s0 := (hb1.frozen (p := ⟨w.heap.size, 0, none⟩) (by simp [go_sem])).trans (show _ = false by simp [go_sem])
    have s1 := (hb1.frozen (p := ⟨w.heap.size, 1, none⟩) (by simp [go_sem])).trans (show _ = false by simp [go_sem])
    have s2 := (hb1.frozen (p := ⟨w.heap.size, 2, none⟩) (by simp [go_sem])).trans (show _ = false by simp [go_sem])
    go_wp2
    refine bodyPost_ret (v := .tuple #[.agg #[.int .i64 0, .int .i64 0, .int .i64 0], .int .i64 2]) (by simp [results, Try.f30, go_sem, r0, r1, r2]) rfl ⟨⟨2, by decide, rfl⟩, ((hB.setCell (by simp) _).setCell (by simp) _).setCell (by simp) _⟩
theorem make_mod {p q : Int} (p1 : 1 ≤ p) (q1 : 1 ≤ q) (hb : p * q ≤ 1048576) (h : twoB p q = true) : 2 ≤ (Int.lcm (p - 1) (q - 1) : Int) ∧ (Int.lcm (p - 1) (q - 1) : Int) ≤ 1048576 := by
  simp only [twoB, Bool.and_eq_true, bne_iff_ne, ne_eq] at h
  obtain ⟨⟨hp, hq⟩, hne⟩ := h
  have a := (prB_true hp).1
  have b := (prB_true hq).1
  have c1 : 1 ≤ p - 1 := by omega
  have c2 : 1 ≤ q - 1 := by omega
  obtain ⟨e1, e2, e3, _⟩ := lcm_eq_mul c1 c2
  have d1 := Int.le_of_dvd (by have := Int.lcm_pos (m := p - 1) (n := q - 1) (by omega) (by omega); omega) (Int.dvd_lcm_left (p - 1) (q - 1))
  have d2 := Int.le_of_dvd (by have := Int.lcm_pos (m := p - 1) (n := q - 1) (by omega) (by omega); omega) (Int.dvd_lcm_right (p - 1) (q - 1))
  refine ⟨by omega, ?_⟩
  have h3 : (p - 1) * ((q - 1) / (Int.gcd (p - 1) (q - 1) : Int)) ≤ p * q := Int.mul_le_mul (by omega) (by omega) (by omega) (by omega)
  rw [e1] at h3
  omega
set_option maxRecDepth 20000 in
set_option maxHeartbeats 3200000 in
theorem rsa_Make_inv (p q e : Int) (w : World) (p1 : 1 ≤ p) (q1 : 1 ≤ q) (e1 : 1 ≤ e) (p2 : p ≤ 1048576) (q2 : q ≤ 1048576) (e2 : e ≤ 1048576) (h : twoB p q = true) (hb : p * q ≤ 1048576) (he : e ≤ p * q) (hg : Int.gcd e (Int.lcm (p - 1) (q - 1)) ≠ 1) :
    Calls Try.prog 30 #[.int .i64 p, .int .i64 q, .int .i64 e] w (MakeNo w) := by
  have HT := Lib.hid fun w => rsa_two p q w p1 p2 q1 q2
  have HL := Lib.hid fun w => euclid_Lcm (p - 1) (q - 1) w (by omega) (by omega) (by omega) (by omega)
  obtain ⟨lm1, lm2⟩ := make_mod p1 q1 hb h
  obtain ⟨m, hm⟩ : ∃ m : Nat, Int.lcm (p - 1) (q - 1) = m := ⟨_, rfl⟩
  rw [hm] at HL lm1 lm2 hg
  have HI := Lib.hid fun w => euclid_Inverse e m w (by omega) (by omega) (by omega) lm2
  have HM := Lib.hid hm
  clear hm
  rw [h] at HT
  clear h
  have hpq0 : 1 * 1 ≤ p * q := Int.mul_le_mul p1 q1 (by omega) (by omega)
  have HG := Lib.hid hg
  clear hg
  go_enter Try.func30, Try.ntmps30
  go_wp2_with fail
  all_goals
    refine (HT.out _).mono ?_
    rintro r w1 ⟨rfl, hb1⟩
    go_wp2_with fail
    refine (HL.out _).mono ?_
    rintro r w2 ⟨rfl, hb2⟩
    replace hb2 := below_two hb1 hb2
    go_wp2_with fail
    refine (HI.out _).mono ?_
    rintro r w3 ⟨⟨hg1, _⟩ | ⟨_, rfl⟩, hb3⟩
    · exact absurd hg1 HG.out
    replace hb3 := below_two hb2 hb3
    have hB := below_two ((Below.refl w.heap.size w).alloc (Nat.le_refl _) _) hb3
    have r0 := kept hb3 (b := w.heap.size) (o := 0) (v := .int .i64 0) (by simp [go_sem]) (by simp)
    have r1 := kept hb3 (b := w.heap.size) (o := 1) (v := .int .i64 0) (by simp [go_sem]) (by simp)
    have r2 := kept hb3 (b := w.heap.size) (o := 2) (v := .int .i64 0) (by simp [go_sem]) (by simp)
    have s0 := (hb3.frozen (p := ⟨w.heap.size, 0, none⟩) (by simp [go_sem])).trans (show _ = false by simp [go_sem])
    have s1 := (hb3.frozen (p := ⟨w.heap.size, 1, none⟩) (by simp [go_sem])).trans (show _ = false by simp [go_sem])
    have s2 := (hb3.frozen (p := ⟨w.heap.size, 2, none⟩) (by simp [go_sem])).trans (show _ = false by simp [go_sem])
    go_wp2
    refine bodyPost_ret (v := .tuple #[.agg #[.int .i64 0, .int .i64 0, .int .i64 0], .int .i64 5]) (by simp [results, Try.f30, go_sem, r0, r1, r2]) rfl ⟨⟨5, by decide, rfl⟩, ((hB.setCell (by simp) _).setCell (by simp) _).setCell (by simp) _⟩
/-- the key that was made -/
def MakeYes (p q e : Int) (w : World) (r : Ending) (w' : World) : Prop := (∃ d : Int, 1 ≤ d ∧ d ≤ 1048576 ∧ (∃ s : Nat, e.toNat * d.toNat = 1 + (Int.lcm (p - 1) (q - 1)) * s) ∧ r = .returned (.tuple #[.agg #[.int .i64 (p * q), .int .i64 e, .int .i64 d], .int .i64 0])) ∧ Below w.heap.size w w'
set_option maxRecDepth 20000 in
set_option maxHeartbeats 3200000 in
theorem rsa_Make_ok (p q e : Int) (w : World) (hk : MakeOk p q e) :
    Calls Try.prog 30 #[.int .i64 p, .int .i64 q, .int .i64 e] w (MakeYes p q e w) := by
  obtain ⟨p1, q1, e1, p2, q2, e2, h, hb, he, hg⟩ := hk
  have HT := Lib.hid fun w => rsa_two p q w p1 p2 q1 q2
  have HL := Lib.hid fun w => euclid_Lcm (p - 1) (q - 1) w (by omega) (by omega) (by omega) (by omega)
  obtain ⟨lm1, lm2⟩ := make_mod p1 q1 hb h
  obtain ⟨m, hm⟩ : ∃ m : Nat, Int.lcm (p - 1) (q - 1) = m := ⟨_, rfl⟩
  rw [hm] at HL lm1 lm2 hg
  have HI := Lib.hid fun w => euclid_Inverse e m w (by omega) (by omega) (by omega) lm2
  have HM := Lib.hid hm
  clear hm
  rw [h] at HT
  clear h
  have hpq0 : 1 * 1 ≤ p * q := Int.mul_le_mul p1 q1 (by omega) (by omega)
  have HG := Lib.hid hg
  clear hg
  go_enter Try.func30, Try.ntmps30
  go_wp2_with fail
  all_goals
    refine (HT.out _).mono ?_
    rintro r w1 ⟨rfl, hb1⟩
    go_wp2_with fail
    refine (HL.out _).mono ?_
    rintro r w2 ⟨rfl, hb2⟩
    replace hb2 := below_two hb1 hb2
    go_wp2_with fail
    refine (HI.out _).mono ?_
    rintro r w3 ⟨⟨_, d, rfl, d0, d1, d2⟩ | ⟨hg1, _⟩, hb3⟩
    rotate_left
    · exact absurd HG.out hg1
    obtain ⟨d3, s, hs⟩ := key_exp e1 lm1 d0 d1 d2
    have HS : Hid (∃ s : Nat, e.toNat * d.toNat = 1 + (Int.lcm (p - 1) (q - 1)) * s) := Lib.hid ⟨s, by rw [HM.out]; exact hs⟩
    clear d2 hs
    replace hb3 := below_two hb2 hb3
    have hB := below_two ((Below.refl w.heap.size w).alloc (Nat.le_refl _) _) hb3
    have r0 := kept hb3 (b := w.heap.size) (o := 0) (v := .int .i64 0) (by simp [go_sem]) (by simp)
    have r1 := kept hb3 (b := w.heap.size) (o := 1) (v := .int .i64 0) (by simp [go_sem]) (by simp)
    have r2 := kept hb3 (b := w.heap.size) (o := 2) (v := .int .i64 0) (by simp [go_sem]) (by simp)
    have s0 := (hb3.frozen (p := ⟨w.heap.size, 0, none⟩) (by simp [go_sem])).trans (show _ = false by simp [go_sem])
    have s1 := (hb3.frozen (p := ⟨w.heap.size, 1, none⟩) (by simp [go_sem])).trans (show _ = false by simp [go_sem])
    have s2 := (hb3.frozen (p := ⟨w.heap.size, 2, none⟩) (by simp [go_sem])).trans (show _ = false by simp [go_sem])
    go_wp2
    refine bodyPost_ret (v := .tuple #[.agg #[.int .i64 (p * q), .int .i64 e, .int .i64 d], .int .i64 0]) (by simp [results, Try.f30, go_sem, r0, r1, r2]) rfl ⟨⟨d, d3, by omega, HS.out, rfl⟩, ((hB.setCell (by simp) _).setCell (by simp) _).setCell (by simp) _⟩
theorem rsa_Make_no (p q e : Int) (w : World) (h : ¬ MakeOk p q e) :
    Calls Try.prog 30 #[.int .i64 p, .int .i64 q, .int .i64 e] w (MakeNo w) := by
  by_cases h1 : p < 1 ∨ q < 1 ∨ e < 1
  · exact rsa_Make_low p q e w h1
  by_cases h2 : 1048576 < p ∨ 1048576 < q ∨ 1048576 < e
  · exact rsa_Make_high p q e w (by omega) (by omega) (by omega) h2
  by_cases h3 : twoB p q = true
  · by_cases h4 : 1048576 < p * q
    · exact rsa_Make_big p q e w (by omega) (by omega) (by omega) (by omega) (by omega) (by omega) h3 h4
    by_cases h5 : p * q < e
    · exact rsa_Make_over p q e w (by omega) (by omega) (by omega) (by omega) (by omega) (by omega) h3 (by omega) h5
    refine rsa_Make_inv p q e w (by omega) (by omega) (by omega) (by omega) (by omega) (by omega) h3 (by omega) (by omega) fun hg => h ⟨by omega, by omega, by omega, by omega, by omega, by omega, h3, by omega, by omega, hg⟩
  · exact rsa_Make_two p q e w (by omega) (by omega) (by omega) (by omega) (by omega) (by omega) (by simpa using h3)
end Go.Proofs.Ytceocooppjfjjaa
