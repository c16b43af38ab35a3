/- The walk of the statement GroupOpens. -/
import Derived.Test.YtgmkmlfppblpfaaWGrp
import Derived.Test.YtgmkmlfppblpfaaGrp5
namespace Go.Proofs.Ytgmkmlfppblpfaa
open Go.RowKit
set_option linter.unusedVariables false
set_option linter.unusedSimpArgs false
theorem open_lock {P Q G a r m : Int} (hP : 2 ≤ P) (hQ : 1 ≤ Q) (hG : memB P Q G = true) (hm : 1 ≤ m) (hm2 : m < P) (ha : 0 ≤ a) (ha2 : a < Q) (hr : 0 ≤ r) :
    m * pw (pw G a P) r P % P * pw (pw G r P) (Q - a) P % P = m := by
  rw [pw_pw G P ha hr, pw_pw G P hr (by omega)]
  have e : pw G (a * r) P * pw G (r * (Q - a)) P % P = 1 := by
    rw [pw_add G P (Int.mul_nonneg ha hr) (Int.mul_nonneg hr (by omega)), show a * r + r * (Q - a) = Q * r by rw [Int.mul_sub, Int.mul_comm a r, Int.mul_comm r Q]; omega, ← pw_pw G P (by omega) hr, (memB_iff.1 hG).2.2, pw_one, Int.emod_eq_of_lt (by omega) (by omega)]
  have e2 : ∀ u v : Int, u % P * v % P = u * v % P := fun u v => by rw [Int.mul_emod, Int.emod_emod, ← Int.mul_emod]
  rw [e2, Int.mul_assoc, Int.mul_emod, e, Int.mul_one, Int.emod_emod, Int.emod_eq_of_lt (by omega) hm2]
theorem wrong1 {P Q G H r y m : Int} (hg : grpE P Q G H = 0) (hr : 0 ≤ r) (hr2 : r < Q) (hy : memB P Q y = true) (hm : memB P Q m = true) : wrongE P Q G H [r] [y, m] = 0 :=
  wrongE_zero.2 ⟨hg, by simp [powsB, hr, hr2], by simp [memsB, hy, hm]⟩
theorem wrong1_r {P Q G H r : Int} {l : List Int} (hr : ¬ (0 ≤ r ∧ r < Q)) : ¬ wrongE P Q G H [r] l = 0 := fun h => by
  have := (wrongE_zero.1 h).2.1; simp [powsB] at this; exact hr this
theorem wrong1_m {P Q G H r y m : Int} (hm : memB P Q m = false) : ¬ wrongE P Q G H [r] [y, m] = 0 := fun h => by
  have := (wrongE_zero.1 h).2.2; simp [memsB, hm] at this
set_option maxHeartbeats 3200000 in
theorem WGroupOpens (P : Int) (Q : Int) (G : Int) (H : Int) (a : Int) (m : Int) (r : Int) (s : Int) (w : World) (w0x : (Lit.int .i64 P).wf = true) (w0y : (Lit.int .i64 Q).wf = true) (w0z : (Lit.int .i64 G).wf = true) (w0u : (Lit.int .i64 H).wf = true) (w1 : (Lit.int .i64 a).wf = true) (w2 : (Lit.int .i64 m).wf = true) (w3 : (Lit.int .i64 r).wf = true) (w4 : (Lit.int .i64 s).wf = true) :
    Calls Try.prog 4 #[.agg #[.int .i64 P, .int .i64 Q, .int .i64 G, .int .i64 H], .int .i64 a, .int .i64 m, .int .i64 r, .int .i64 s] w fun e w' => e = .returned (.bool true) ∧ Below w.heap.size w w' := by
  clear w0x w0y w0z w0u w1 w2 w3 w4
  by_cases ha : shE P Q G H a G = 0
  · obtain ⟨hg, a1, a2, a3⟩ := shE_zero ha
    have ⟨⟨g1, g2, g3, g4, g5, _⟩, hp, hq, _⟩ := grpE_zero hg
    have x1 := mem_pw (k := a) (by omega) (by omega) a3 a1
    have HPW : Hid ((powsB Q [a] && (grpE P Q G H == 0)) = true) := Lib.hid (by simp [powsB, a1, a2, hg])
    have HA := Lib.hid ha
    by_cases hr : 0 ≤ r ∧ r < Q
    · have HPR : Hid ((powsB Q [r] && (grpE P Q G H == 0)) = true) := Lib.hid (by simp [powsB, hr.1, hr.2, hg])
      rcases hm : memB P Q m with _ | _
      · have HM := Lib.hid hm
        have HN := Lib.hid (wrong1_m (P := P) (Q := Q) (G := G) (H := H) (r := r) (y := pw G a P) hm)
        clear ha hg a3 hp hq x1 hr hm
        go_enter Try.func4, Try.ntmps4
        go_wp2_with fail
        refine (group_Public P Q G H a _ HA.out).mono ?_
        rintro e w1 ⟨rfl, hb1⟩
        have z1 := hb1.size
        simp at z1
        have k0 := kept hb1 (b := w.heap.size) (o := 0) (v := .int .i64 P) (by simp [go_sem]) (by simp [go_sem] <;> omega)
        have k1 := kept hb1 (b := w.heap.size) (o := 1) (v := .int .i64 Q) (by simp [go_sem]) (by simp [go_sem] <;> omega)
        have k2 := kept hb1 (b := w.heap.size) (o := 2) (v := .int .i64 G) (by simp [go_sem]) (by simp [go_sem] <;> omega)
        have k3 := kept hb1 (b := w.heap.size) (o := 3) (v := .int .i64 H) (by simp [go_sem]) (by simp [go_sem] <;> omega)
        go_wp2_with fail
        refine (keep_powers P Q G H _ 1 [a] _ ?r1 (by simp)).mono ?_
        case r1 => exact RowI.one (by simp [go_sem]) (by simp [go_sem])
        rintro e w2 ⟨rfl, hb2⟩
        rw [HPW.out]
        have z2 := hb2.size
        simp at z2
        replace hb2 := below_two ((Below.refl _ w1).alloc (Nat.le_refl _) _) hb2
        replace k0 := kept hb2 k0 (by omega)
        replace k1 := kept hb2 k1 (by omega)
        replace k2 := kept hb2 k2 (by omega)
        replace k3 := kept hb2 k3 (by omega)
        have lt2 : w.heap.size < w2.heap.size := by omega
        go_wp2_with fail
        refine (group_Lock_no P Q G H (pw G a P) m r _ HN.out).mono ?_
        rintro e w3 ⟨⟨t, ht, rfl⟩, hb3⟩
        have hta : (t == 0) = false := by simpa using ht
        have htb : (t != 0) = true := by simpa using ht
        have z3 := hb3.size
        replace k0 := kept hb3 k0 (by omega)
        replace k1 := kept hb3 k1 (by omega)
        replace k2 := kept hb3 k2 (by omega)
        replace k3 := kept hb3 k3 (by omega)
        have lt3 : w.heap.size < w3.heap.size := by omega
        go_wp2_with fail
        refine (keep_powers P Q G H _ 1 [r] _ ?r1 (by simp)).mono ?_
        case r1 => exact RowI.one (by simp [go_sem]) (by simp [go_sem])
        rintro e w4 ⟨rfl, hb4⟩
        rw [HPR.out]
        have z4 := hb4.size
        simp at z4
        replace hb4 := below_two (((Below.refl _ w3).alloc (Nat.le_refl _) _).alloc (by simp) _) hb4
        replace k0 := kept hb4 k0 (by omega)
        replace k1 := kept hb4 k1 (by omega)
        replace k2 := kept hb4 k2 (by omega)
        replace k3 := kept hb4 k3 (by omega)
        have lt4 : w.heap.size < w4.heap.size := by omega
        go_wp2_with fail
        refine (ref_Member P Q G H m _ (by omega) g2 (by omega) (by omega)).mono ?_
        rintro e w5 ⟨rfl, hb5⟩
        rw [HM.out]
        have z5 := hb5.size
        replace k0 := kept hb5 k0 (by omega)
        replace k1 := kept hb5 k1 (by omega)
        replace k2 := kept hb5 k2 (by omega)
        replace k3 := kept hb5 k3 (by omega)
        have lt5 : w.heap.size < w5.heap.size := by omega
        go_wp2
        go_ret
        exact ⟨ret_bool (by simp), below_two (below_two (below_two (below_two (below_two ((Below.refl _ _).alloc (Nat.le_refl _) _) hb1) hb2) hb3) hb4) hb5⟩
      · have HM := Lib.hid hm
        obtain ⟨m1, m2, _⟩ := memB_iff.1 hm
        obtain ⟨r1, r2⟩ := hr
        have HL1 := Lib.hid (wrong1 hg r1 r2 x1 hm)
        have c1 := mem_pw (k := r) (by omega) (by omega) a3 r1
        have c2 := mem_mul (by omega) (by omega) hm (mem_pw (k := r) (by omega) (by omega) x1 r1)
        have HO := Lib.hid (wrong1 hg a1 a2 c1 c2)
        have HOL := Lib.hid (open_lock (by omega) (by omega) a3 m1 m2 a1 a2 r1)
        have HS : Hid ((0 ≤ s ∧ s < Q) → wrongE P Q G H [s] [pw G a P, m] = 0) := Lib.hid fun hs => wrong1 hg hs.1 hs.2 x1 hm
        have HI := Lib.hid (fun (hs : 0 ≤ s ∧ s < Q) (e : pw G r P = pw G s P) => pw_inj hp hq (by omega) g3 a3 g5 r1 r2 hs.1 hs.2 e)
        obtain ⟨X, hX⟩ : ∃ X, pw G a P = X := ⟨_, rfl⟩
        rw [hX] at HL1 HOL HO HS
        have HXe := Lib.hid hX
        obtain ⟨c, hc⟩ : ∃ X, pw G r P = X := ⟨_, rfl⟩
        rw [hc] at HOL HO HI
        obtain ⟨y, hy⟩ : ∃ z, pw X r P = z := ⟨_, rfl⟩
        rw [hy] at HO
        rw [hy] at HOL
        obtain ⟨d, hd⟩ : ∃ X, m * y % P = X := ⟨_, rfl⟩
        rw [hd] at HOL HO
        clear ha hg a3 hp hq x1 hX c1 c2 hm
        by_cases hs : 0 ≤ s ∧ s < Q
        · have HL2 := Lib.hid (HS.out hs)
          have HI := Lib.hid (HI.out hs)
          obtain ⟨c', hc'⟩ : ∃ X, pw G s P = X := ⟨_, rfl⟩
          obtain ⟨y', hy'⟩ : ∃ z, pw X s P = z := ⟨_, rfl⟩
          obtain ⟨d', hd'⟩ : ∃ X, m * y' % P = X := ⟨_, rfl⟩
          clear hs HS
          go_enter Try.func4, Try.ntmps4
          go_wp2_with fail
          refine (group_Public P Q G H a _ HA.out).mono ?_
          rintro e w1 ⟨rfl, hb1⟩
          rw [HXe.out]
          have z1 := hb1.size
          simp at z1
          have k0 := kept hb1 (b := w.heap.size) (o := 0) (v := .int .i64 P) (by simp [go_sem]) (by simp [go_sem] <;> omega)
          have k1 := kept hb1 (b := w.heap.size) (o := 1) (v := .int .i64 Q) (by simp [go_sem]) (by simp [go_sem] <;> omega)
          have k2 := kept hb1 (b := w.heap.size) (o := 2) (v := .int .i64 G) (by simp [go_sem]) (by simp [go_sem] <;> omega)
          have k3 := kept hb1 (b := w.heap.size) (o := 3) (v := .int .i64 H) (by simp [go_sem]) (by simp [go_sem] <;> omega)
          go_wp2_with fail
          refine (keep_powers P Q G H _ 1 [a] _ ?r1 (by simp)).mono ?_
          case r1 => exact RowI.one (by simp [go_sem]) (by simp [go_sem])
          rintro e w2 ⟨rfl, hb2⟩
          rw [HPW.out]
          have z2 := hb2.size
          simp at z2
          replace hb2 := below_two ((Below.refl _ w1).alloc (Nat.le_refl _) _) hb2
          replace k0 := kept hb2 k0 (by omega)
          replace k1 := kept hb2 k1 (by omega)
          replace k2 := kept hb2 k2 (by omega)
          replace k3 := kept hb2 k3 (by omega)
          have lt2 : w.heap.size < w2.heap.size := by omega
          go_wp2_with fail
          refine (group_Lock P Q G H X m r _ HL1.out).mono ?_
          rintro e w3 ⟨rfl, hb3⟩
          rw [hc]
          rw [hy]
          rw [hd]
          have z3 := hb3.size
          replace k0 := kept hb3 k0 (by omega)
          replace k1 := kept hb3 k1 (by omega)
          replace k2 := kept hb3 k2 (by omega)
          replace k3 := kept hb3 k3 (by omega)
          have lt3 : w.heap.size < w3.heap.size := by omega
          go_wp2_with fail
          refine (keep_powers P Q G H _ 1 [r] _ ?r1 (by simp)).mono ?_
          case r1 => exact RowI.one (by simp [go_sem]) (by simp [go_sem])
          rintro e w4 ⟨rfl, hb4⟩
          rw [HPR.out]
          have c0 := kept hb4 (b := w3.heap.size) (o := 0) (v := .int .i64 c) (by simp [go_sem]) (by simp [go_sem] <;> omega)
          have c1 := kept hb4 (b := w3.heap.size) (o := 1) (v := .int .i64 d) (by simp [go_sem]) (by simp [go_sem] <;> omega)
          have z4 := hb4.size
          simp at z4
          replace hb4 := below_two (((Below.refl _ w3).alloc (Nat.le_refl _) _).alloc (by simp) _) hb4
          replace k0 := kept hb4 k0 (by omega)
          replace k1 := kept hb4 k1 (by omega)
          replace k2 := kept hb4 k2 (by omega)
          replace k3 := kept hb4 k3 (by omega)
          have lt4 : w.heap.size < w4.heap.size := by omega
          go_wp2_with fail
          refine (ref_Member P Q G H m _ (by omega) g2 (by omega) (by omega)).mono ?_
          rintro e w5 ⟨rfl, hb5⟩
          rw [HM.out]
          have z5 := hb5.size
          replace k0 := kept hb5 k0 (by omega)
          replace k1 := kept hb5 k1 (by omega)
          replace k2 := kept hb5 k2 (by omega)
          replace k3 := kept hb5 k3 (by omega)
          replace c0 := kept hb5 c0 (by omega)
          replace c1 := kept hb5 c1 (by omega)
          have lt5 : w.heap.size < w5.heap.size := by omega
          go_wp2_with fail
          refine (group_Open P Q G H a c d _ HO.out).mono ?_
          rintro e w6 ⟨rfl, hb6⟩
          rw [HOL.out]
          have z6 := hb6.size
          replace k0 := kept hb6 k0 (by omega)
          replace k1 := kept hb6 k1 (by omega)
          replace k2 := kept hb6 k2 (by omega)
          replace k3 := kept hb6 k3 (by omega)
          replace c0 := kept hb6 c0 (by omega)
          replace c1 := kept hb6 c1 (by omega)
          have lt6 : w.heap.size < w6.heap.size := by omega
          go_wp2_with fail
          refine (group_Lock P Q G H X m s _ HL2.out).mono ?_
          rintro e w7 ⟨rfl, hb7⟩
          rw [hc']
          rw [hy']
          rw [hd']
          have z7 := hb7.size
          replace k0 := kept hb7 k0 (by omega)
          replace k1 := kept hb7 k1 (by omega)
          replace k2 := kept hb7 k2 (by omega)
          replace k3 := kept hb7 k3 (by omega)
          replace c0 := kept hb7 c0 (by omega)
          replace c1 := kept hb7 c1 (by omega)
          have lt7 : w.heap.size < w7.heap.size := by omega
          have mm : w3.heap.size < w7.heap.size := by omega
          by_cases rs : r = s
          · subst rs
            obtain rfl : c = c' := hc.symm.trans hc'
            obtain rfl : y = y' := hy.symm.trans hy'
            obtain rfl : d = d' := hd.symm.trans hd'
            clear hc hc' hy hy' hd hd'
            go_wp2
            go_ret
            exact ⟨ret_bool (by simp), (below_two (below_two (below_two (below_two (below_two (below_two (below_two ((Below.refl _ _).alloc (Nat.le_refl _) _) hb1) hb2) hb3) hb4) hb5) hb6) hb7).alloc (by omega) _⟩
          · have n1 : ¬ c = c' := fun e => rs (HI.out (e.trans hc'.symm))
            have n2 : (c == c') = false := by simpa using n1
            have n3 : (r == s) = false := by simpa using rs
            clear hc hc' hy hy' hd hd'
            go_wp2
            go_ret
            exact ⟨ret_bool (by simp [n2]), (below_two (below_two (below_two (below_two (below_two (below_two (below_two ((Below.refl _ _).alloc (Nat.le_refl _) _) hb1) hb2) hb3) hb4) hb5) hb6) hb7).alloc (by omega) _⟩
        · have HN : Hid (¬ wrongE P Q G H [s] [X, m] = 0) := Lib.hid (wrong1_r hs)
          clear hs HS HI
          go_enter Try.func4, Try.ntmps4
          go_wp2_with fail
          refine (group_Public P Q G H a _ HA.out).mono ?_
          rintro e w1 ⟨rfl, hb1⟩
          rw [HXe.out]
          have z1 := hb1.size
          simp at z1
          have k0 := kept hb1 (b := w.heap.size) (o := 0) (v := .int .i64 P) (by simp [go_sem]) (by simp [go_sem] <;> omega)
          have k1 := kept hb1 (b := w.heap.size) (o := 1) (v := .int .i64 Q) (by simp [go_sem]) (by simp [go_sem] <;> omega)
          have k2 := kept hb1 (b := w.heap.size) (o := 2) (v := .int .i64 G) (by simp [go_sem]) (by simp [go_sem] <;> omega)
          have k3 := kept hb1 (b := w.heap.size) (o := 3) (v := .int .i64 H) (by simp [go_sem]) (by simp [go_sem] <;> omega)
          go_wp2_with fail
          refine (keep_powers P Q G H _ 1 [a] _ ?r1 (by simp)).mono ?_
          case r1 => exact RowI.one (by simp [go_sem]) (by simp [go_sem])
          rintro e w2 ⟨rfl, hb2⟩
          rw [HPW.out]
          have z2 := hb2.size
          simp at z2
          replace hb2 := below_two ((Below.refl _ w1).alloc (Nat.le_refl _) _) hb2
          replace k0 := kept hb2 k0 (by omega)
          replace k1 := kept hb2 k1 (by omega)
          replace k2 := kept hb2 k2 (by omega)
          replace k3 := kept hb2 k3 (by omega)
          have lt2 : w.heap.size < w2.heap.size := by omega
          go_wp2_with fail
          refine (group_Lock P Q G H X m r _ HL1.out).mono ?_
          rintro e w3 ⟨rfl, hb3⟩
          rw [hc]
          rw [hy]
          rw [hd]
          have z3 := hb3.size
          replace k0 := kept hb3 k0 (by omega)
          replace k1 := kept hb3 k1 (by omega)
          replace k2 := kept hb3 k2 (by omega)
          replace k3 := kept hb3 k3 (by omega)
          have lt3 : w.heap.size < w3.heap.size := by omega
          go_wp2_with fail
          refine (keep_powers P Q G H _ 1 [r] _ ?r1 (by simp)).mono ?_
          case r1 => exact RowI.one (by simp [go_sem]) (by simp [go_sem])
          rintro e w4 ⟨rfl, hb4⟩
          rw [HPR.out]
          have c0 := kept hb4 (b := w3.heap.size) (o := 0) (v := .int .i64 c) (by simp [go_sem]) (by simp [go_sem] <;> omega)
          have c1 := kept hb4 (b := w3.heap.size) (o := 1) (v := .int .i64 d) (by simp [go_sem]) (by simp [go_sem] <;> omega)
          have z4 := hb4.size
          simp at z4
          replace hb4 := below_two (((Below.refl _ w3).alloc (Nat.le_refl _) _).alloc (by simp) _) hb4
          replace k0 := kept hb4 k0 (by omega)
          replace k1 := kept hb4 k1 (by omega)
          replace k2 := kept hb4 k2 (by omega)
          replace k3 := kept hb4 k3 (by omega)
          have lt4 : w.heap.size < w4.heap.size := by omega
          go_wp2_with fail
          refine (ref_Member P Q G H m _ (by omega) g2 (by omega) (by omega)).mono ?_
          rintro e w5 ⟨rfl, hb5⟩
          rw [HM.out]
          have z5 := hb5.size
          replace k0 := kept hb5 k0 (by omega)
          replace k1 := kept hb5 k1 (by omega)
          replace k2 := kept hb5 k2 (by omega)
          replace k3 := kept hb5 k3 (by omega)
          replace c0 := kept hb5 c0 (by omega)
          replace c1 := kept hb5 c1 (by omega)
          have lt5 : w.heap.size < w5.heap.size := by omega
          go_wp2_with fail
          refine (group_Open P Q G H a c d _ HO.out).mono ?_
          rintro e w6 ⟨rfl, hb6⟩
          rw [HOL.out]
          have z6 := hb6.size
          replace k0 := kept hb6 k0 (by omega)
          replace k1 := kept hb6 k1 (by omega)
          replace k2 := kept hb6 k2 (by omega)
          replace k3 := kept hb6 k3 (by omega)
          replace c0 := kept hb6 c0 (by omega)
          replace c1 := kept hb6 c1 (by omega)
          have lt6 : w.heap.size < w6.heap.size := by omega
          go_wp2_with fail
          refine (group_Lock_no P Q G H X m s _ HN.out).mono ?_
          rintro e w7 ⟨⟨t, ht, rfl⟩, hb7⟩
          have hta : (t == 0) = false := by simpa using ht
          have htb : (t != 0) = true := by simpa using ht
          have z7 := hb7.size
          replace k0 := kept hb7 k0 (by omega)
          replace k1 := kept hb7 k1 (by omega)
          replace k2 := kept hb7 k2 (by omega)
          replace k3 := kept hb7 k3 (by omega)
          replace c0 := kept hb7 c0 (by omega)
          replace c1 := kept hb7 c1 (by omega)
          have lt7 : w.heap.size < w7.heap.size := by omega
          clear hc hy hd
          go_wp2
          go_ret
          exact ⟨ret_bool (by simp), (below_two (below_two (below_two (below_two (below_two (below_two (below_two ((Below.refl _ _).alloc (Nat.le_refl _) _) hb1) hb2) hb3) hb4) hb5) hb6) hb7).alloc (by omega) _⟩
    · have HPR : Hid ((powsB Q [r] && (grpE P Q G H == 0)) = false) := Lib.hid (by
        cases e : (powsB Q [r] && (grpE P Q G H == 0))
        · rfl
        · simp [powsB] at e; exact absurd e.1 hr)
      have HN : Hid (¬ wrongE P Q G H [r] [pw G a P, m] = 0) := Lib.hid (wrong1_r hr)
      clear ha hg a3 hp hq x1 hr
      go_enter Try.func4, Try.ntmps4
      go_wp2_with fail
      refine (group_Public P Q G H a _ HA.out).mono ?_
      rintro e w1 ⟨rfl, hb1⟩
      have z1 := hb1.size
      simp at z1
      have k0 := kept hb1 (b := w.heap.size) (o := 0) (v := .int .i64 P) (by simp [go_sem]) (by simp [go_sem] <;> omega)
      have k1 := kept hb1 (b := w.heap.size) (o := 1) (v := .int .i64 Q) (by simp [go_sem]) (by simp [go_sem] <;> omega)
      have k2 := kept hb1 (b := w.heap.size) (o := 2) (v := .int .i64 G) (by simp [go_sem]) (by simp [go_sem] <;> omega)
      have k3 := kept hb1 (b := w.heap.size) (o := 3) (v := .int .i64 H) (by simp [go_sem]) (by simp [go_sem] <;> omega)
      go_wp2_with fail
      refine (keep_powers P Q G H _ 1 [a] _ ?r1 (by simp)).mono ?_
      case r1 => exact RowI.one (by simp [go_sem]) (by simp [go_sem])
      rintro e w2 ⟨rfl, hb2⟩
      rw [HPW.out]
      have z2 := hb2.size
      simp at z2
      replace hb2 := below_two ((Below.refl _ w1).alloc (Nat.le_refl _) _) hb2
      replace k0 := kept hb2 k0 (by omega)
      replace k1 := kept hb2 k1 (by omega)
      replace k2 := kept hb2 k2 (by omega)
      replace k3 := kept hb2 k3 (by omega)
      have lt2 : w.heap.size < w2.heap.size := by omega
      go_wp2_with fail
      refine (group_Lock_no P Q G H (pw G a P) m r _ HN.out).mono ?_
      rintro e w3 ⟨⟨t, ht, rfl⟩, hb3⟩
      have hta : (t == 0) = false := by simpa using ht
      have htb : (t != 0) = true := by simpa using ht
      have z3 := hb3.size
      replace k0 := kept hb3 k0 (by omega)
      replace k1 := kept hb3 k1 (by omega)
      replace k2 := kept hb3 k2 (by omega)
      replace k3 := kept hb3 k3 (by omega)
      have lt3 : w.heap.size < w3.heap.size := by omega
      go_wp2_with fail
      refine (keep_powers P Q G H _ 1 [r] _ ?r1 (by simp)).mono ?_
      case r1 => exact RowI.one (by simp [go_sem]) (by simp [go_sem])
      rintro e w4 ⟨rfl, hb4⟩
      rw [HPR.out]
      have z4 := hb4.size
      simp at z4
      replace hb4 := below_two (((Below.refl _ w3).alloc (Nat.le_refl _) _).alloc (by simp) _) hb4
      replace k0 := kept hb4 k0 (by omega)
      replace k1 := kept hb4 k1 (by omega)
      replace k2 := kept hb4 k2 (by omega)
      replace k3 := kept hb4 k3 (by omega)
      have lt4 : w.heap.size < w4.heap.size := by omega
      go_wp2
      go_ret
      exact ⟨ret_bool (by simp), below_two (below_two (below_two (below_two ((Below.refl _ _).alloc (Nat.le_refl _) _) hb1) hb2) hb3) hb4⟩
  · have HPW : Hid ((powsB Q [a] && (grpE P Q G H == 0)) = false) := Lib.hid (by
      cases e : (powsB Q [a] && (grpE P Q G H == 0))
      · rfl
      · simp [powsB] at e; exact absurd ((shE_own e.2).2 e.1) ha)
    obtain ⟨t, ht⟩ : ∃ t, shE P Q G H a G = t := ⟨_, rfl⟩
    have ht0 : ¬ t = 0 := fun h => ha (ht.trans h)
    have hta : (t == 0) = false := by simpa using ht0
    have htb : (t != 0) = true := by simpa using ht0
    have HA := Lib.hid ha
    have HT := Lib.hid ht
    clear ha ht
    go_enter Try.func4, Try.ntmps4
    go_wp2_with fail
    refine (group_Public_no P Q G H a _ HA.out).mono ?_
    rintro e w1 ⟨rfl, hb1⟩
    rw [HT.out]
    have z1 := hb1.size
    simp at z1
    have k0 := kept hb1 (b := w.heap.size) (o := 0) (v := .int .i64 P) (by simp [go_sem]) (by simp [go_sem] <;> omega)
    have k1 := kept hb1 (b := w.heap.size) (o := 1) (v := .int .i64 Q) (by simp [go_sem]) (by simp [go_sem] <;> omega)
    have k2 := kept hb1 (b := w.heap.size) (o := 2) (v := .int .i64 G) (by simp [go_sem]) (by simp [go_sem] <;> omega)
    have k3 := kept hb1 (b := w.heap.size) (o := 3) (v := .int .i64 H) (by simp [go_sem]) (by simp [go_sem] <;> omega)
    go_wp2_with fail
    refine (keep_powers P Q G H _ 1 [a] _ ?r1 (by simp)).mono ?_
    case r1 => exact RowI.one (by simp [go_sem]) (by simp [go_sem])
    rintro e w2 ⟨rfl, hb2⟩
    rw [HPW.out]
    have z2 := hb2.size
    simp at z2
    replace hb2 := below_two ((Below.refl _ w1).alloc (Nat.le_refl _) _) hb2
    replace k0 := kept hb2 k0 (by omega)
    replace k1 := kept hb2 k1 (by omega)
    replace k2 := kept hb2 k2 (by omega)
    replace k3 := kept hb2 k3 (by omega)
    have lt2 : w.heap.size < w2.heap.size := by omega
    go_wp2
    go_ret
    exact ⟨ret_bool (by simp), below_two (below_two ((Below.refl _ _).alloc (Nat.le_refl _) _) hb1) hb2⟩
end Go.Proofs.Ytgmkmlfppblpfaa
