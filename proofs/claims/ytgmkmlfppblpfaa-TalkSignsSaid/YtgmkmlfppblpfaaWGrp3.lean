/- The walk of the statement GroupMuls. -/
import Derived.Test.YtgmkmlfppblpfaaWGrp2
namespace Go.Proofs.Ytgmkmlfppblpfaa
open Go.RowKit
set_option linter.unusedVariables false
set_option linter.unusedSimpArgs false
theorem mul_lock {P X m n r s : Int} (hr : 0 ≤ r) (hs : 0 ≤ s) : (m * pw X r P % P) * (n * pw X s P % P) % P = m * n % P * pw X (r + s) P % P := by
  have e2 : ∀ u v : Int, u % P * v % P = u * v % P := fun u v => by rw [Int.mul_emod, Int.emod_emod, ← Int.mul_emod]
  have e3 : ∀ u v : Int, u * (v % P) % P = u * v % P := fun u v => by rw [Int.mul_emod, Int.emod_emod, ← Int.mul_emod]
  rw [e2, e3, ← pw_add X P hr hs, e3, e2, Int.mul_assoc, Int.mul_assoc, Int.mul_left_comm (pw X r P)]
theorem pows3 {P Q G H a r s : Int} (hg : grpE P Q G H = 0) (ha : 0 ≤ a ∧ a < Q) (hr : 0 ≤ r ∧ r < Q) (hs : 0 ≤ s ∧ s < Q) : (powsB Q [a, r, s] && (grpE P Q G H == 0)) = true := by
  simp [powsB, ha.1, ha.2, hr.1, hr.2, hs.1, hs.2, hg]
theorem pows_not {b : Bool} (h : ¬ b = true) : b = false := by cases b <;> simp_all
theorem wrongM {P Q G H x y z u : Int} (hg : grpE P Q G H = 0) (h1 : memB P Q x = true) (h2 : memB P Q y = true) (h3 : memB P Q z = true) (h4 : memB P Q u = true) : wrongE P Q G H [] [x, y, z, u] = 0 :=
  wrongE_zero.2 ⟨hg, rfl, by simp [memsB, h1, h2, h3, h4]⟩
theorem RowI.three {W : World} {b : Nat} {x y z : Int} (h : W.cell? ⟨b, 0, none⟩ = some (.int .i64 x)) (h' : W.cell? ⟨b, 1, none⟩ = some (.int .i64 y)) (h2 : W.cell? ⟨b, 2, none⟩ = some (.int .i64 z)) (hb : b < W.heap.size) : RowI W (some ⟨b, 0, none⟩) [x, y, z] := fun i v hv => by
  match i, hv with
  | 0, hv => cases hv; exact ⟨b, 0, rfl, hb, h⟩
  | 1, hv => cases hv; exact ⟨b, 0, rfl, hb, h'⟩
  | 2, hv => cases hv; exact ⟨b, 0, rfl, hb, h2⟩
  | i + 3, hv => simp at hv
set_option maxHeartbeats 3200000 in
theorem WGroupMuls (P : Int) (Q : Int) (G : Int) (H : Int) (a : Int) (m : Int) (n : Int) (r : Int) (s : Int) (w : World) (w0x : (Lit.int .i64 P).wf = true) (w0y : (Lit.int .i64 Q).wf = true) (w0z : (Lit.int .i64 G).wf = true) (w0u : (Lit.int .i64 H).wf = true) (w1 : (Lit.int .i64 a).wf = true) (w2 : (Lit.int .i64 m).wf = true) (w3 : (Lit.int .i64 n).wf = true) (w4 : (Lit.int .i64 r).wf = true) (w5 : (Lit.int .i64 s).wf = true) :
    Calls Try.prog 5 #[.agg #[.int .i64 P, .int .i64 Q, .int .i64 G, .int .i64 H], .int .i64 a, .int .i64 m, .int .i64 n, .int .i64 r, .int .i64 s] w fun e w' => e = .returned (.bool true) ∧ Below w.heap.size w w' := by
  clear w0x w0y w0z w0u w1 w2 w3 w4 w5
  by_cases ha : shE P Q G H a G = 0
  · obtain ⟨hg, a1, a2, a3⟩ := shE_zero ha
    have ⟨⟨g1, g2, g3, g4, g5, _⟩, hp, hq, _⟩ := grpE_zero hg
    have x1 := mem_pw (k := a) (by omega) (by omega) a3 a1
    have HPW : Hid ((powsB Q [a] && (grpE P Q G H == 0)) = true) := Lib.hid (by simp [powsB, a1, a2, hg])
    have HA := Lib.hid ha
    by_cases hr : (0 ≤ r ∧ r < Q) ∧ (0 ≤ s ∧ s < Q)
    · have HPR := Lib.hid (pows3 hg ⟨a1, a2⟩ hr.1 hr.2)
      obtain ⟨⟨r1, r2⟩, s1, s2⟩ := hr
      rcases hm : memB P Q m with _ | _
      · have HM := Lib.hid hm
        clear ha hg a3 hp hq x1 hm
        go_enter Try.func5, Try.ntmps5
        go_wp2_with fail
        refine (group_Public P Q G H a _ HA.out).mono ?_
        rintro e w1 ⟨rfl, hb1⟩
        have z1 := hb1.size
        simp at z1
        have k0 := kept hb1 (b := w.heap.size) (o := 0) (v := .int .i64 P) (by simp [go_sem]) (by simp [go_sem] <;> omega)
        have k1 := kept hb1 (b := w.heap.size) (o := 1) (v := .int .i64 Q) (by simp [go_sem]) (by simp [go_sem] <;> omega)
        have k2 := kept hb1 (b := w.heap.size) (o := 2) (v := .int .i64 G) (by simp [go_sem]) (by simp [go_sem] <;> omega)
        have k3 := kept hb1 (b := w.heap.size) (o := 3) (v := .int .i64 H) (by simp [go_sem]) (by simp [go_sem] <;> omega)
        go_wp2_with fail
        refine (keep_powers P Q G H _ 3 [a, r, s] _ ?r1 (by simp)).mono ?_
        case r1 => exact RowI.three (by simp [go_sem]) (by simp [go_sem]) (by simp [go_sem]) (by simp [go_sem])
        rintro e w2 ⟨rfl, hb2⟩
        rw [HPR.out]
        have z2 := hb2.size
        simp at z2
        replace hb2 := below_two ((Below.refl _ w1).alloc (Nat.le_refl _) _) hb2
        replace k0 := kept hb2 k0 (by omega)
        replace k1 := kept hb2 k1 (by omega)
        replace k2 := kept hb2 k2 (by omega)
        replace k3 := kept hb2 k3 (by omega)
        have lt2 : w.heap.size < w2.heap.size := by omega
        go_wp2_with fail
        refine (ref_Member P Q G H m _ (by omega) g2 (by omega) (by omega)).mono ?_
        rintro e w3 ⟨rfl, hb3⟩
        rw [HM.out]
        have z3 := hb3.size
        replace k0 := kept hb3 k0 (by omega)
        replace k1 := kept hb3 k1 (by omega)
        replace k2 := kept hb3 k2 (by omega)
        replace k3 := kept hb3 k3 (by omega)
        have lt3 : w.heap.size < w3.heap.size := by omega
        go_wp2_with fail
        refine (keep_powers P Q G H _ 1 [a] _ ?r1 (by simp)).mono ?_
        case r1 => exact RowI.one (by simp [go_sem]) (by simp [go_sem])
        rintro e w4 ⟨rfl, hb4⟩
        rw [HPW.out]
        have z4 := hb4.size
        simp at z4
        replace hb4 := below_two ((Below.refl _ w3).alloc (Nat.le_refl _) _) hb4
        replace k0 := kept hb4 k0 (by omega)
        replace k1 := kept hb4 k1 (by omega)
        replace k2 := kept hb4 k2 (by omega)
        replace k3 := kept hb4 k3 (by omega)
        have lt4 : w.heap.size < w4.heap.size := by omega
        go_wp2
        go_ret
        exact ⟨ret_bool (by simp), below_two (below_two (below_two (below_two ((Below.refl _ _).alloc (Nat.le_refl _) _) hb1) hb2) hb3) hb4⟩
      · rcases hn : memB P Q n with _ | _
        · have HM := Lib.hid hm
          have HN := Lib.hid hn
          clear ha hg a3 hp hq x1 hm hn
          go_enter Try.func5, Try.ntmps5
          go_wp2_with fail
          refine (group_Public P Q G H a _ HA.out).mono ?_
          rintro e w1 ⟨rfl, hb1⟩
          have z1 := hb1.size
          simp at z1
          have k0 := kept hb1 (b := w.heap.size) (o := 0) (v := .int .i64 P) (by simp [go_sem]) (by simp [go_sem] <;> omega)
          have k1 := kept hb1 (b := w.heap.size) (o := 1) (v := .int .i64 Q) (by simp [go_sem]) (by simp [go_sem] <;> omega)
          have k2 := kept hb1 (b := w.heap.size) (o := 2) (v := .int .i64 G) (by simp [go_sem]) (by simp [go_sem] <;> omega)
          have k3 := kept hb1 (b := w.heap.size) (o := 3) (v := .int .i64 H) (by simp [go_sem]) (by simp [go_sem] <;> omega)
          go_wp2_with fail
          refine (keep_powers P Q G H _ 3 [a, r, s] _ ?r1 (by simp)).mono ?_
          case r1 => exact RowI.three (by simp [go_sem]) (by simp [go_sem]) (by simp [go_sem]) (by simp [go_sem])
          rintro e w2 ⟨rfl, hb2⟩
          rw [HPR.out]
          have z2 := hb2.size
          simp at z2
          replace hb2 := below_two ((Below.refl _ w1).alloc (Nat.le_refl _) _) hb2
          replace k0 := kept hb2 k0 (by omega)
          replace k1 := kept hb2 k1 (by omega)
          replace k2 := kept hb2 k2 (by omega)
          replace k3 := kept hb2 k3 (by omega)
          have lt2 : w.heap.size < w2.heap.size := by omega
          go_wp2_with fail
          refine (ref_Member P Q G H m _ (by omega) g2 (by omega) (by omega)).mono ?_
          rintro e w3 ⟨rfl, hb3⟩
          rw [HM.out]
          have z3 := hb3.size
          replace k0 := kept hb3 k0 (by omega)
          replace k1 := kept hb3 k1 (by omega)
          replace k2 := kept hb3 k2 (by omega)
          replace k3 := kept hb3 k3 (by omega)
          have lt3 : w.heap.size < w3.heap.size := by omega
          go_wp2_with fail
          refine (ref_Member P Q G H n _ (by omega) g2 (by omega) (by omega)).mono ?_
          rintro e w4 ⟨rfl, hb4⟩
          rw [HN.out]
          have z4 := hb4.size
          replace k0 := kept hb4 k0 (by omega)
          replace k1 := kept hb4 k1 (by omega)
          replace k2 := kept hb4 k2 (by omega)
          replace k3 := kept hb4 k3 (by omega)
          have lt4 : w.heap.size < w4.heap.size := by omega
          go_wp2_with fail
          refine (keep_powers P Q G H _ 1 [a] _ ?r1 (by simp)).mono ?_
          case r1 => exact RowI.one (by simp [go_sem]) (by simp [go_sem])
          rintro e w5 ⟨rfl, hb5⟩
          rw [HPW.out]
          have z5 := hb5.size
          simp at z5
          replace hb5 := below_two ((Below.refl _ w4).alloc (Nat.le_refl _) _) hb5
          replace k0 := kept hb5 k0 (by omega)
          replace k1 := kept hb5 k1 (by omega)
          replace k2 := kept hb5 k2 (by omega)
          replace k3 := kept hb5 k3 (by omega)
          have lt5 : w.heap.size < w5.heap.size := by omega
          go_wp2
          go_ret
          exact ⟨ret_bool (by simp), below_two (below_two (below_two (below_two (below_two ((Below.refl _ _).alloc (Nat.le_refl _) _) hb1) hb2) hb3) hb4) hb5⟩
        · have HM := Lib.hid hm
          have HN := Lib.hid hn
          obtain ⟨m1, m2, _⟩ := memB_iff.1 hm
          obtain ⟨n1, n2, _⟩ := memB_iff.1 hn
          have HL1 := Lib.hid (wrong1 hg r1 r2 x1 hm)
          have HL2 := Lib.hid (wrong1 hg s1 s2 x1 hn)
          have c1 := mem_pw (k := r) (by omega) (by omega) a3 r1
          have c2 := mem_mul (by omega) (by omega) hm (mem_pw (k := r) (by omega) (by omega) x1 r1)
          have d1 := mem_pw (k := s) (by omega) (by omega) a3 s1
          have d2 := mem_mul (by omega) (by omega) hn (mem_pw (k := s) (by omega) (by omega) x1 s1)
          have HML := Lib.hid (wrongM hg c1 c2 d1 d2)
          have u1 := mem_mul (by omega) (by omega) c1 d1
          have u2 := mem_mul (by omega) (by omega) c2 d2
          have HO := Lib.hid (wrong1 hg a1 a2 u1 u2)
          have mn := mem_mul (by omega) (by omega) hm hn
          obtain ⟨mn1, mn2, _⟩ := memB_iff.1 mn
          have HOL := Lib.hid (open_lock (r := r + s) (by omega) (by omega) a3 mn1 mn2 a1 a2 (by omega))
          have HOL : Hid ((m * pw (pw G a P) r P % P) * (n * pw (pw G a P) s P % P) % P * pw (pw G r P * pw G s P % P) (Q - a) P % P = m * n % P) := Lib.hid (by
            rw [mul_lock r1 s1, pw_add G P r1 s1]; exact HOL.out)
          have q := mul_lim (show 0 ≤ m by omega) (by omega) (show 0 ≤ n by omega) (by omega)
          have f1 : IntKind.i64.wrap (m * n) = m * n := IntWalk.i64_in _ (by omega)
          have f2 : Int.tmod (m * n) P = m * n % P := Int.tmod_eq_emod_of_nonneg q.1
          have f3 : (P == 0) = false := by simp; omega
          have f4 : ¬ P = 0 := by omega
          obtain ⟨X, hX⟩ : ∃ X, pw G a P = X := ⟨_, rfl⟩
          rw [hX] at HL1 HL2 HOL HO HML
          have HXe := Lib.hid hX
          obtain ⟨c, hc⟩ : ∃ X, pw G r P = X := ⟨_, rfl⟩
          obtain ⟨d, hd⟩ : ∃ z, m * pw X r P % P = z := ⟨_, rfl⟩
          obtain ⟨c', hc'⟩ : ∃ X, pw G s P = X := ⟨_, rfl⟩
          obtain ⟨d', hd'⟩ : ∃ z, n * pw X s P % P = z := ⟨_, rfl⟩
          rw [hc, hc', hd, hd'] at HOL HO HML
          obtain ⟨u, hu⟩ : ∃ X, c * c' % P = X := ⟨_, rfl⟩
          obtain ⟨v, hv⟩ : ∃ X, d * d' % P = X := ⟨_, rfl⟩
          rw [hu, hv] at HOL HO
          have Hc := Lib.hid hc
          have Hd := Lib.hid hd
          have Hc' := Lib.hid hc'
          have Hd' := Lib.hid hd'
          have Hu := Lib.hid hu
          have Hv := Lib.hid hv
          clear ha hg a3 hp hq x1 hX c1 c2 hm hn d1 d2 u1 u2 mn hc hd hc' hd' hu hv
          go_enter Try.func5, Try.ntmps5
          go_wp2_with fail
          refine (group_Public P Q G H a _ HA.out).mono ?_
          rintro e w1 ⟨rfl, hb1⟩
          rw [HXe.out]
          have z1 := hb1.size
          simp at z1
          have k0 := kept hb1 (b := w.heap.size) (o := 0) (v := .int .i64 P) (by simp [go_sem]) (by simp [go_sem] <;> omega)
          have k1 := kept hb1 (b := w.heap.size) (o := 1) (v := .int .i64 Q) (by simp [go_sem]) (by simp [go_sem] <;> omega)
          have k2 := kept hb1 (b := w.heap.size) (o := 2) (v := .int .i64 G) (by simp [go_sem]) (by simp [go_sem] <;> omega)
          have k3 := kept hb1 (b := w.heap.size) (o := 3) (v := .int .i64 H) (by simp [go_sem]) (by simp [go_sem] <;> omega)
          go_wp2_with fail
          refine (keep_powers P Q G H _ 3 [a, r, s] _ ?r1 (by simp)).mono ?_
          case r1 => exact RowI.three (by simp [go_sem]) (by simp [go_sem]) (by simp [go_sem]) (by simp [go_sem])
          rintro e w2 ⟨rfl, hb2⟩
          rw [HPR.out]
          have z2 := hb2.size
          simp at z2
          replace hb2 := below_two ((Below.refl _ w1).alloc (Nat.le_refl _) _) hb2
          replace k0 := kept hb2 k0 (by omega)
          replace k1 := kept hb2 k1 (by omega)
          replace k2 := kept hb2 k2 (by omega)
          replace k3 := kept hb2 k3 (by omega)
          have lt2 : w.heap.size < w2.heap.size := by omega
          go_wp2_with fail
          refine (ref_Member P Q G H m _ (by omega) g2 (by omega) (by omega)).mono ?_
          rintro e w3 ⟨rfl, hb3⟩
          rw [HM.out]
          have z3 := hb3.size
          replace k0 := kept hb3 k0 (by omega)
          replace k1 := kept hb3 k1 (by omega)
          replace k2 := kept hb3 k2 (by omega)
          replace k3 := kept hb3 k3 (by omega)
          have lt3 : w.heap.size < w3.heap.size := by omega
          go_wp2_with fail
          refine (ref_Member P Q G H n _ (by omega) g2 (by omega) (by omega)).mono ?_
          rintro e w4 ⟨rfl, hb4⟩
          rw [HN.out]
          have z4 := hb4.size
          replace k0 := kept hb4 k0 (by omega)
          replace k1 := kept hb4 k1 (by omega)
          replace k2 := kept hb4 k2 (by omega)
          replace k3 := kept hb4 k3 (by omega)
          have lt4 : w.heap.size < w4.heap.size := by omega
          go_wp2_with fail
          refine (group_Lock P Q G H X m r _ HL1.out).mono ?_
          rintro e w5 ⟨rfl, hb5⟩
          rw [Hc.out]
          rw [Hd.out]
          have z5 := hb5.size
          replace k0 := kept hb5 k0 (by omega)
          replace k1 := kept hb5 k1 (by omega)
          replace k2 := kept hb5 k2 (by omega)
          replace k3 := kept hb5 k3 (by omega)
          have lt5 : w.heap.size < w5.heap.size := by omega
          go_wp2_with fail
          refine (group_Lock P Q G H X n s _ HL2.out).mono ?_
          rintro e w6 ⟨rfl, hb6⟩
          rw [Hc'.out]
          rw [Hd'.out]
          have c0 := kept hb6 (b := w5.heap.size) (o := 0) (v := .int .i64 c) (by simp [go_sem]) (by simp [go_sem] <;> omega)
          have c1 := kept hb6 (b := w5.heap.size) (o := 1) (v := .int .i64 d) (by simp [go_sem]) (by simp [go_sem] <;> omega)
          have z6 := hb6.size
          simp at z6
          replace hb6 := below_two ((Below.refl _ w5).alloc (Nat.le_refl _) _) hb6
          replace k0 := kept hb6 k0 (by omega)
          replace k1 := kept hb6 k1 (by omega)
          replace k2 := kept hb6 k2 (by omega)
          replace k3 := kept hb6 k3 (by omega)
          have lt6 : w.heap.size < w6.heap.size := by omega
          have mm : w5.heap.size < w6.heap.size := by omega
          go_wp2_with fail
          refine (group_Mul P Q G H c d c' d' _ HML.out).mono ?_
          rintro e w7 ⟨rfl, hb7⟩
          rw [Hu.out]
          rw [Hv.out]
          have d0 := kept hb7 (b := w6.heap.size) (o := 0) (v := .int .i64 c') (by simp [go_sem]) (by simp [go_sem] <;> omega)
          have d1 := kept hb7 (b := w6.heap.size) (o := 1) (v := .int .i64 d') (by simp [go_sem]) (by simp [go_sem] <;> omega)
          have z7 := hb7.size
          simp at z7
          replace hb7 := below_two ((Below.refl _ w6).alloc (Nat.le_refl _) _) hb7
          replace k0 := kept hb7 k0 (by omega)
          replace k1 := kept hb7 k1 (by omega)
          replace k2 := kept hb7 k2 (by omega)
          replace k3 := kept hb7 k3 (by omega)
          replace c0 := kept hb7 c0 (by omega)
          replace c1 := kept hb7 c1 (by omega)
          have lt7 : w.heap.size < w7.heap.size := by omega
          go_wp2_with fail
          refine (group_Open P Q G H a u v _ HO.out).mono ?_
          rintro e w8 ⟨rfl, hb8⟩
          rw [HOL.out]
          have z8 := hb8.size
          simp at z8
          replace hb8 := below_two ((Below.refl _ w7).alloc (Nat.le_refl _) _) hb8
          replace k0 := kept hb8 k0 (by omega)
          replace k1 := kept hb8 k1 (by omega)
          replace k2 := kept hb8 k2 (by omega)
          replace k3 := kept hb8 k3 (by omega)
          replace c0 := kept hb8 c0 (by omega)
          replace c1 := kept hb8 c1 (by omega)
          replace d0 := kept hb8 d0 (by omega)
          replace d1 := kept hb8 d1 (by omega)
          have lt8 : w.heap.size < w8.heap.size := by omega
          go_wp2
          go_ret
          exact ⟨ret_bool (by simp), below_two (below_two (below_two (below_two (below_two (below_two (below_two (below_two ((Below.refl _ _).alloc (Nat.le_refl _) _) hb1) hb2) hb3) hb4) hb5) hb6) hb7) hb8⟩
    · have HPR := Lib.hid (pows_not (b := powsB Q [a, r, s] && (grpE P Q G H == 0)) fun e => hr (by simp [powsB] at e; omega))
      clear ha hg a3 hp hq x1 hr
      go_enter Try.func5, Try.ntmps5
      go_wp2_with fail
      refine (group_Public P Q G H a _ HA.out).mono ?_
      rintro e w1 ⟨rfl, hb1⟩
      have z1 := hb1.size
      simp at z1
      have k0 := kept hb1 (b := w.heap.size) (o := 0) (v := .int .i64 P) (by simp [go_sem]) (by simp [go_sem] <;> omega)
      have k1 := kept hb1 (b := w.heap.size) (o := 1) (v := .int .i64 Q) (by simp [go_sem]) (by simp [go_sem] <;> omega)
      have k2 := kept hb1 (b := w.heap.size) (o := 2) (v := .int .i64 G) (by simp [go_sem]) (by simp [go_sem] <;> omega)
      have k3 := kept hb1 (b := w.heap.size) (o := 3) (v := .int .i64 H) (by simp [go_sem]) (by simp [go_sem] <;> omega)
      go_wp2_with fail
      refine (keep_powers P Q G H _ 3 [a, r, s] _ ?r1 (by simp)).mono ?_
      case r1 => exact RowI.three (by simp [go_sem]) (by simp [go_sem]) (by simp [go_sem]) (by simp [go_sem])
      rintro e w2 ⟨rfl, hb2⟩
      rw [HPR.out]
      have z2 := hb2.size
      simp at z2
      replace hb2 := below_two ((Below.refl _ w1).alloc (Nat.le_refl _) _) hb2
      replace k0 := kept hb2 k0 (by omega)
      replace k1 := kept hb2 k1 (by omega)
      replace k2 := kept hb2 k2 (by omega)
      replace k3 := kept hb2 k3 (by omega)
      have lt2 : w.heap.size < w2.heap.size := by omega
      go_wp2_with fail
      refine (keep_powers P Q G H _ 1 [a] _ ?r1 (by simp)).mono ?_
      case r1 => exact RowI.one (by simp [go_sem]) (by simp [go_sem])
      rintro e w3 ⟨rfl, hb3⟩
      rw [HPW.out]
      have z3 := hb3.size
      simp at z3
      replace hb3 := below_two ((Below.refl _ w2).alloc (Nat.le_refl _) _) hb3
      replace k0 := kept hb3 k0 (by omega)
      replace k1 := kept hb3 k1 (by omega)
      replace k2 := kept hb3 k2 (by omega)
      replace k3 := kept hb3 k3 (by omega)
      have lt3 : w.heap.size < w3.heap.size := by omega
      go_wp2
      go_ret
      exact ⟨ret_bool (by simp), below_two (below_two (below_two ((Below.refl _ _).alloc (Nat.le_refl _) _) hb1) hb2) hb3⟩
  · have HPR := Lib.hid (pows_not (b := powsB Q [a, r, s] && (grpE P Q G H == 0)) fun e => ha (by simp [powsB] at e; exact (shE_own e.2).2 e.1.1))
    have HPW := Lib.hid (pows_not (b := powsB Q [a] && (grpE P Q G H == 0)) fun e => ha (by simp [powsB] at e; exact (shE_own e.2).2 e.1))
    obtain ⟨t, ht⟩ : ∃ t, shE P Q G H a G = t := ⟨_, rfl⟩
    have ht0 : ¬ t = 0 := fun h => ha (ht.trans h)
    have hta : (t == 0) = false := by simpa using ht0
    have htb : (t != 0) = true := by simpa using ht0
    have HA := Lib.hid ha
    have HT := Lib.hid ht
    clear ha ht
    go_enter Try.func5, Try.ntmps5
    go_wp2_with fail
    refine (group_Public_no P Q G H a _ HA.out).mono ?_
    rintro e w1 ⟨rfl, hb1⟩
    rw [HT.out]
    have z1 := hb1.size
    simp at z1
    have k0 := kept hb1 (b := w.heap.size) (o := 0) (v := .int .i64 P) (by simp [go_sem]) (by simp [go_sem] <;> omega)
    have k1 := kept hb1 (b := w.heap.size) (o := 1) (v := .int .i64 Q) (by simp [go_sem]) (by simp [go_sem] <;> omega)
    have k2 := kept hb1 (b := w.heap.size) (o := 2) (v := .int .i64 G) (by simp [go_sem]) (by simp [go_sem] <;> omega)
    have k3 := kept hb1 (b := w.heap.size) (o := 3) (v := .int .i64 H) (by simp [go_sem]) (by simp [go_sem] <;> omega)
    go_wp2_with fail
    refine (keep_powers P Q G H _ 3 [a, r, s] _ ?r1 (by simp)).mono ?_
    case r1 => exact RowI.three (by simp [go_sem]) (by simp [go_sem]) (by simp [go_sem]) (by simp [go_sem])
    rintro e w2 ⟨rfl, hb2⟩
    rw [HPR.out]
    have z2 := hb2.size
    simp at z2
    replace hb2 := below_two ((Below.refl _ w1).alloc (Nat.le_refl _) _) hb2
    replace k0 := kept hb2 k0 (by omega)
    replace k1 := kept hb2 k1 (by omega)
    replace k2 := kept hb2 k2 (by omega)
    replace k3 := kept hb2 k3 (by omega)
    have lt2 : w.heap.size < w2.heap.size := by omega
    go_wp2_with fail
    refine (keep_powers P Q G H _ 1 [a] _ ?r1 (by simp)).mono ?_
    case r1 => exact RowI.one (by simp [go_sem]) (by simp [go_sem])
    rintro e w3 ⟨rfl, hb3⟩
    rw [HPW.out]
    have z3 := hb3.size
    simp at z3
    replace hb3 := below_two ((Below.refl _ w2).alloc (Nat.le_refl _) _) hb3
    replace k0 := kept hb3 k0 (by omega)
    replace k1 := kept hb3 k1 (by omega)
    replace k2 := kept hb3 k2 (by omega)
    replace k3 := kept hb3 k3 (by omega)
    have lt3 : w.heap.size < w3.heap.size := by omega
    go_wp2
    go_ret
    exact ⟨ret_bool (by simp), below_two (below_two (below_two ((Below.refl _ _).alloc (Nat.le_refl _) _) hb1) hb2) hb3⟩
end Go.Proofs.Ytgmkmlfppblpfaa
