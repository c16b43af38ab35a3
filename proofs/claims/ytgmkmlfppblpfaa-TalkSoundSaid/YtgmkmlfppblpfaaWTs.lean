/- The walk of the statement TalkSound. -/
import Derived.Test.YtgmkmlfppblpfaaTk7
import Derived.Test.YtgmkmlfppblpfaaWTf
namespace Go.Proofs.Ytgmkmlfppblpfaa
open Go.RowKit
set_option linter.unusedVariables false
set_option linter.unusedSimpArgs false
theorem one_said {P Q G H s : Int} (hg : grpE P Q G H = 0) (hs : 0 ≤ s) : saidB P Q (pw G s P) [(1, 0, 0)] = true := by
  have ⟨⟨g1, g2, g3, g4, g5, _⟩, _, _, _, hG, _⟩ := grpE_zero hg
  refine said_one.2 ⟨⟨⟨by omega, by omega⟩, by omega, by omega⟩, mem_pw (by omega) (by omega) hG hs, memB_iff.2 ⟨by omega, by omega, ?_⟩⟩
  rw [pw_one, Int.emod_eq_of_lt (by omega) (by omega)]
theorem one_right {P G X : Int} (h : 2 ≤ P) : rightB P G X 1 0 0 = true := by
  unfold rightB
  rw [pw_zero, pw_zero, Int.one_mul, Int.emod_emod]
  simp
set_option maxHeartbeats 6400000 in
theorem WTalkSound (P : Int) (Q : Int) (G : Int) (H : Int) (s : Int) (f : Int) (q : Int) (v : Int) (f' : Int) (q' : Int) (v' : Int) (w : World) (w0x : (Lit.int .i64 P).wf = true) (w0y : (Lit.int .i64 Q).wf = true) (w0z : (Lit.int .i64 G).wf = true) (w0u : (Lit.int .i64 H).wf = true) (w1 : (Lit.int .i64 s).wf = true) (w2x : (Lit.int .i64 f).wf = true) (w2y : (Lit.int .i64 q).wf = true) (w2z : (Lit.int .i64 v).wf = true) (w3x : (Lit.int .i64 f').wf = true) (w3y : (Lit.int .i64 q').wf = true) (w3z : (Lit.int .i64 v').wf = true) :
    Calls Try.prog 11 #[.agg #[.int .i64 P, .int .i64 Q, .int .i64 G, .int .i64 H], .int .i64 s, .agg #[.int .i64 f, .int .i64 q, .int .i64 v], .agg #[.int .i64 f', .int .i64 q', .int .i64 v']] w fun e w' => e = .returned (.bool true) ∧ Below w.heap.size w w' := by
  clear w0x w0y w0z w0u w1 w2x w2y w2z w3x w3y w3z
  by_cases h : shE P Q G H s G = 0
  · have HSH := Lib.hid h
    obtain ⟨hg, s1, s2, hG⟩ := shE_zero h
    have HG := Lib.hid hg
    have HPW : Hid ((powsB Q [s] && (grpE P Q G H == 0)) = true) := Lib.hid (by simp [powsB, s1, s2, hg])
    have H1S := Lib.hid (one_said hg s1)
    have H1R : Hid (rightB P G (pw G s P) 1 0 0 = true) := Lib.hid (one_right (by have := (grpE_zero hg).1.1; omega))
    rcases ha : saidB P Q (pw G s P) [(f, q, v)] with _ | _
    · have HA := Lib.hid ha
      have HE := Lib.hid fun w => Extract_no1 P Q G H (pw G s P) f q v f' q' v' w hg (by rw [said_two, ha]; rfl)
      clear h hg hG ha
      go_enter Try.func11, Try.ntmps11
      go_wp2_with fail
      refine (group_Public P Q G H s _ HSH.out).mono ?_
      rintro e w1 ⟨rfl, hb1⟩
      have c0 := kept hb1 (b := w.heap.size + 1) (o := 0) (v := .int .i64 f) (by simp [go_sem]) (by simp [go_sem] <;> omega)
      have c1 := kept hb1 (b := w.heap.size + 1) (o := 1) (v := .int .i64 q) (by simp [go_sem]) (by simp [go_sem] <;> omega)
      have c2 := kept hb1 (b := w.heap.size + 1) (o := 2) (v := .int .i64 v) (by simp [go_sem]) (by simp [go_sem] <;> omega)
      have d0 := kept hb1 (b := w.heap.size + 1 + 1) (o := 0) (v := .int .i64 f') (by simp [go_sem]) (by simp [go_sem] <;> omega)
      have d1 := kept hb1 (b := w.heap.size + 1 + 1) (o := 1) (v := .int .i64 q') (by simp [go_sem]) (by simp [go_sem] <;> omega)
      have d2 := kept hb1 (b := w.heap.size + 1 + 1) (o := 2) (v := .int .i64 v') (by simp [go_sem]) (by simp [go_sem] <;> omega)
      have z1 := hb1.size
      simp at z1
      have k0 := kept hb1 (b := w.heap.size) (o := 0) (v := .int .i64 P) (by simp [go_sem]) (by simp [go_sem] <;> omega)
      have k1 := kept hb1 (b := w.heap.size) (o := 1) (v := .int .i64 Q) (by simp [go_sem]) (by simp [go_sem] <;> omega)
      have k2 := kept hb1 (b := w.heap.size) (o := 2) (v := .int .i64 G) (by simp [go_sem]) (by simp [go_sem] <;> omega)
      have k3 := kept hb1 (b := w.heap.size) (o := 3) (v := .int .i64 H) (by simp [go_sem]) (by simp [go_sem] <;> omega)
      go_wp2_with fail
      refine (keep_powers P Q G H _ 1 [s] _ ?r1 (by simp)).mono ?_
      case r1 => exact RowI.one (by simp [go_sem]) (by simp [go_sem])
      rintro e w2 ⟨rfl, hb2⟩
      rw [HPW.out]
      have z2 := hb2.size
      simp at z2
      replace hb2 := below_two ((Below.refl _ w1).alloc (Nat.le_refl _) _) hb2
      replace k0 := kept hb2 k0 (by omega)
      replace k1 := kept hb2 k1 (by omega)
      replace k2 := kept hb2 k2 (by omega)
      replace k3 := kept hb2 k3 (by omega)
      replace c0 := kept hb2 c0 (by omega)
      replace c1 := kept hb2 c1 (by omega)
      replace c2 := kept hb2 c2 (by omega)
      replace d0 := kept hb2 d0 (by omega)
      replace d1 := kept hb2 d1 (by omega)
      replace d2 := kept hb2 d2 (by omega)
      have lt2 : w.heap.size < w2.heap.size := by omega
      go_wp2_with fail
      refine (chk_no HG.out HA.out).mono ?_
      rintro e w3 ⟨⟨t, ht, rfl⟩, hb3⟩
      have hta : (t == 0) = false := by simpa using ht
      have htb : (t != 0) = true := by simpa using ht
      have z3 := hb3.size
      replace k0 := kept hb3 k0 (by omega)
      replace k1 := kept hb3 k1 (by omega)
      replace k2 := kept hb3 k2 (by omega)
      replace k3 := kept hb3 k3 (by omega)
      replace c0 := kept hb3 c0 (by omega)
      replace c1 := kept hb3 c1 (by omega)
      replace c2 := kept hb3 c2 (by omega)
      replace d0 := kept hb3 d0 (by omega)
      replace d1 := kept hb3 d1 (by omega)
      replace d2 := kept hb3 d2 (by omega)
      have lt3 : w.heap.size < w3.heap.size := by omega
      go_wp2_with fail
      refine (chk_any HG.out).mono ?_
      rintro e w4 ⟨⟨rr, tt, rfl⟩, hb4⟩
      have z4 := hb4.size
      replace k0 := kept hb4 k0 (by omega)
      replace k1 := kept hb4 k1 (by omega)
      replace k2 := kept hb4 k2 (by omega)
      replace k3 := kept hb4 k3 (by omega)
      replace c0 := kept hb4 c0 (by omega)
      replace c1 := kept hb4 c1 (by omega)
      replace c2 := kept hb4 c2 (by omega)
      replace d0 := kept hb4 d0 (by omega)
      replace d1 := kept hb4 d1 (by omega)
      replace d2 := kept hb4 d2 (by omega)
      have lt4 : w.heap.size < w4.heap.size := by omega
      go_wp2_with fail
      refine (HE.out _).mono ?_
      rintro e w5 ⟨⟨x, hx, rfl⟩, hb5⟩
      have hxa : (x == 0) = false := by simpa using hx
      have hxb : (x != 0) = true := by simpa using hx
      have z5 := hb5.size
      replace k0 := kept hb5 k0 (by omega)
      replace k1 := kept hb5 k1 (by omega)
      replace k2 := kept hb5 k2 (by omega)
      replace k3 := kept hb5 k3 (by omega)
      replace c0 := kept hb5 c0 (by omega)
      replace c1 := kept hb5 c1 (by omega)
      replace c2 := kept hb5 c2 (by omega)
      replace d0 := kept hb5 d0 (by omega)
      replace d1 := kept hb5 d1 (by omega)
      replace d2 := kept hb5 d2 (by omega)
      have lt5 : w.heap.size < w5.heap.size := by omega
      go_wp2_with fail
      refine (chk_yes HG.out H1S.out H1R.out).mono ?_
      rintro e w6 ⟨rfl, hb6⟩
      have z6 := hb6.size
      replace k0 := kept hb6 k0 (by omega)
      replace k1 := kept hb6 k1 (by omega)
      replace k2 := kept hb6 k2 (by omega)
      replace k3 := kept hb6 k3 (by omega)
      replace c0 := kept hb6 c0 (by omega)
      replace c1 := kept hb6 c1 (by omega)
      replace c2 := kept hb6 c2 (by omega)
      replace d0 := kept hb6 d0 (by omega)
      replace d1 := kept hb6 d1 (by omega)
      replace d2 := kept hb6 d2 (by omega)
      have lt6 : w.heap.size < w6.heap.size := by omega
      go_wp2
      go_ret
      exact ⟨ret_bool (by simp), below_two (below_two (below_two (below_two (below_two (below_two ((((Below.refl _ _).alloc (Nat.le_refl _) _).alloc (by simp) _).alloc (by simp <;> omega) _) hb1) hb2) hb3) hb4) hb5) hb6⟩
    · have HA := Lib.hid ha
      rcases hb : saidB P Q (pw G s P) [(f', q', v')] with _ | _
      · have HB := Lib.hid hb
        have HE := Lib.hid fun w => Extract_no1 P Q G H (pw G s P) f q v f' q' v' w hg (by rw [said_two, ha, hb]; rfl)
        obtain ⟨r, hr⟩ : ∃ r, rightB P G (pw G s P) f q v = r := ⟨_, rfl⟩
        have HR := Lib.hid hr
        clear h hg hG ha hb hr
        go_enter Try.func11, Try.ntmps11
        go_wp2_with fail
        refine (group_Public P Q G H s _ HSH.out).mono ?_
        rintro e w1 ⟨rfl, hb1⟩
        have c0 := kept hb1 (b := w.heap.size + 1) (o := 0) (v := .int .i64 f) (by simp [go_sem]) (by simp [go_sem] <;> omega)
        have c1 := kept hb1 (b := w.heap.size + 1) (o := 1) (v := .int .i64 q) (by simp [go_sem]) (by simp [go_sem] <;> omega)
        have c2 := kept hb1 (b := w.heap.size + 1) (o := 2) (v := .int .i64 v) (by simp [go_sem]) (by simp [go_sem] <;> omega)
        have d0 := kept hb1 (b := w.heap.size + 1 + 1) (o := 0) (v := .int .i64 f') (by simp [go_sem]) (by simp [go_sem] <;> omega)
        have d1 := kept hb1 (b := w.heap.size + 1 + 1) (o := 1) (v := .int .i64 q') (by simp [go_sem]) (by simp [go_sem] <;> omega)
        have d2 := kept hb1 (b := w.heap.size + 1 + 1) (o := 2) (v := .int .i64 v') (by simp [go_sem]) (by simp [go_sem] <;> omega)
        have z1 := hb1.size
        simp at z1
        have k0 := kept hb1 (b := w.heap.size) (o := 0) (v := .int .i64 P) (by simp [go_sem]) (by simp [go_sem] <;> omega)
        have k1 := kept hb1 (b := w.heap.size) (o := 1) (v := .int .i64 Q) (by simp [go_sem]) (by simp [go_sem] <;> omega)
        have k2 := kept hb1 (b := w.heap.size) (o := 2) (v := .int .i64 G) (by simp [go_sem]) (by simp [go_sem] <;> omega)
        have k3 := kept hb1 (b := w.heap.size) (o := 3) (v := .int .i64 H) (by simp [go_sem]) (by simp [go_sem] <;> omega)
        go_wp2_with fail
        refine (keep_powers P Q G H _ 1 [s] _ ?r1 (by simp)).mono ?_
        case r1 => exact RowI.one (by simp [go_sem]) (by simp [go_sem])
        rintro e w2 ⟨rfl, hb2⟩
        rw [HPW.out]
        have z2 := hb2.size
        simp at z2
        replace hb2 := below_two ((Below.refl _ w1).alloc (Nat.le_refl _) _) hb2
        replace k0 := kept hb2 k0 (by omega)
        replace k1 := kept hb2 k1 (by omega)
        replace k2 := kept hb2 k2 (by omega)
        replace k3 := kept hb2 k3 (by omega)
        replace c0 := kept hb2 c0 (by omega)
        replace c1 := kept hb2 c1 (by omega)
        replace c2 := kept hb2 c2 (by omega)
        replace d0 := kept hb2 d0 (by omega)
        replace d1 := kept hb2 d1 (by omega)
        replace d2 := kept hb2 d2 (by omega)
        have lt2 : w.heap.size < w2.heap.size := by omega
        go_wp2_with fail
        refine (chk_yes HG.out HA.out HR.out).mono ?_
        rintro e w3 ⟨rfl, hb3⟩
        have z3 := hb3.size
        replace k0 := kept hb3 k0 (by omega)
        replace k1 := kept hb3 k1 (by omega)
        replace k2 := kept hb3 k2 (by omega)
        replace k3 := kept hb3 k3 (by omega)
        replace c0 := kept hb3 c0 (by omega)
        replace c1 := kept hb3 c1 (by omega)
        replace c2 := kept hb3 c2 (by omega)
        replace d0 := kept hb3 d0 (by omega)
        replace d1 := kept hb3 d1 (by omega)
        replace d2 := kept hb3 d2 (by omega)
        have lt3 : w.heap.size < w3.heap.size := by omega
        go_wp2_with fail
        refine (chk_no HG.out HB.out).mono ?_
        rintro e w4 ⟨⟨u, hu, rfl⟩, hb4⟩
        have hua : (u == 0) = false := by simpa using hu
        have hub : (u != 0) = true := by simpa using hu
        have z4 := hb4.size
        replace k0 := kept hb4 k0 (by omega)
        replace k1 := kept hb4 k1 (by omega)
        replace k2 := kept hb4 k2 (by omega)
        replace k3 := kept hb4 k3 (by omega)
        replace c0 := kept hb4 c0 (by omega)
        replace c1 := kept hb4 c1 (by omega)
        replace c2 := kept hb4 c2 (by omega)
        replace d0 := kept hb4 d0 (by omega)
        replace d1 := kept hb4 d1 (by omega)
        replace d2 := kept hb4 d2 (by omega)
        have lt4 : w.heap.size < w4.heap.size := by omega
        go_wp2_with fail
        refine (HE.out _).mono ?_
        rintro e w5 ⟨⟨x, hx, rfl⟩, hb5⟩
        have hxa : (x == 0) = false := by simpa using hx
        have hxb : (x != 0) = true := by simpa using hx
        have z5 := hb5.size
        replace k0 := kept hb5 k0 (by omega)
        replace k1 := kept hb5 k1 (by omega)
        replace k2 := kept hb5 k2 (by omega)
        replace k3 := kept hb5 k3 (by omega)
        replace c0 := kept hb5 c0 (by omega)
        replace c1 := kept hb5 c1 (by omega)
        replace c2 := kept hb5 c2 (by omega)
        replace d0 := kept hb5 d0 (by omega)
        replace d1 := kept hb5 d1 (by omega)
        replace d2 := kept hb5 d2 (by omega)
        have lt5 : w.heap.size < w5.heap.size := by omega
        go_wp2_with fail
        refine (chk_yes HG.out H1S.out H1R.out).mono ?_
        rintro e w6 ⟨rfl, hb6⟩
        have z6 := hb6.size
        replace k0 := kept hb6 k0 (by omega)
        replace k1 := kept hb6 k1 (by omega)
        replace k2 := kept hb6 k2 (by omega)
        replace k3 := kept hb6 k3 (by omega)
        replace c0 := kept hb6 c0 (by omega)
        replace c1 := kept hb6 c1 (by omega)
        replace c2 := kept hb6 c2 (by omega)
        replace d0 := kept hb6 d0 (by omega)
        replace d1 := kept hb6 d1 (by omega)
        replace d2 := kept hb6 d2 (by omega)
        have lt6 : w.heap.size < w6.heap.size := by omega
        go_wp2
        go_ret
        exact ⟨ret_bool (by simp), below_two (below_two (below_two (below_two (below_two (below_two ((((Below.refl _ _).alloc (Nat.le_refl _) _).alloc (by simp) _).alloc (by simp <;> omega) _) hb1) hb2) hb3) hb4) hb5) hb6⟩
      · have HB := Lib.hid hb
        rcases hr : rightB P G (pw G s P) f q v with _ | _
        · have HR := Lib.hid hr
          have HE := Lib.hid fun w => Extract_no2 P Q G H (pw G s P) f q v f' q' v' w hg ha hb hr
          obtain ⟨r', hr'⟩ : ∃ r, rightB P G (pw G s P) f' q' v' = r := ⟨_, rfl⟩
          have HR' := Lib.hid hr'
          clear h hg hG ha hb hr hr'
          go_enter Try.func11, Try.ntmps11
          go_wp2_with fail
          refine (group_Public P Q G H s _ HSH.out).mono ?_
          rintro e w1 ⟨rfl, hb1⟩
          have c0 := kept hb1 (b := w.heap.size + 1) (o := 0) (v := .int .i64 f) (by simp [go_sem]) (by simp [go_sem] <;> omega)
          have c1 := kept hb1 (b := w.heap.size + 1) (o := 1) (v := .int .i64 q) (by simp [go_sem]) (by simp [go_sem] <;> omega)
          have c2 := kept hb1 (b := w.heap.size + 1) (o := 2) (v := .int .i64 v) (by simp [go_sem]) (by simp [go_sem] <;> omega)
          have d0 := kept hb1 (b := w.heap.size + 1 + 1) (o := 0) (v := .int .i64 f') (by simp [go_sem]) (by simp [go_sem] <;> omega)
          have d1 := kept hb1 (b := w.heap.size + 1 + 1) (o := 1) (v := .int .i64 q') (by simp [go_sem]) (by simp [go_sem] <;> omega)
          have d2 := kept hb1 (b := w.heap.size + 1 + 1) (o := 2) (v := .int .i64 v') (by simp [go_sem]) (by simp [go_sem] <;> omega)
          have z1 := hb1.size
          simp at z1
          have k0 := kept hb1 (b := w.heap.size) (o := 0) (v := .int .i64 P) (by simp [go_sem]) (by simp [go_sem] <;> omega)
          have k1 := kept hb1 (b := w.heap.size) (o := 1) (v := .int .i64 Q) (by simp [go_sem]) (by simp [go_sem] <;> omega)
          have k2 := kept hb1 (b := w.heap.size) (o := 2) (v := .int .i64 G) (by simp [go_sem]) (by simp [go_sem] <;> omega)
          have k3 := kept hb1 (b := w.heap.size) (o := 3) (v := .int .i64 H) (by simp [go_sem]) (by simp [go_sem] <;> omega)
          go_wp2_with fail
          refine (keep_powers P Q G H _ 1 [s] _ ?r1 (by simp)).mono ?_
          case r1 => exact RowI.one (by simp [go_sem]) (by simp [go_sem])
          rintro e w2 ⟨rfl, hb2⟩
          rw [HPW.out]
          have z2 := hb2.size
          simp at z2
          replace hb2 := below_two ((Below.refl _ w1).alloc (Nat.le_refl _) _) hb2
          replace k0 := kept hb2 k0 (by omega)
          replace k1 := kept hb2 k1 (by omega)
          replace k2 := kept hb2 k2 (by omega)
          replace k3 := kept hb2 k3 (by omega)
          replace c0 := kept hb2 c0 (by omega)
          replace c1 := kept hb2 c1 (by omega)
          replace c2 := kept hb2 c2 (by omega)
          replace d0 := kept hb2 d0 (by omega)
          replace d1 := kept hb2 d1 (by omega)
          replace d2 := kept hb2 d2 (by omega)
          have lt2 : w.heap.size < w2.heap.size := by omega
          go_wp2_with fail
          refine (chk_yes HG.out HA.out HR.out).mono ?_
          rintro e w3 ⟨rfl, hb3⟩
          have z3 := hb3.size
          replace k0 := kept hb3 k0 (by omega)
          replace k1 := kept hb3 k1 (by omega)
          replace k2 := kept hb3 k2 (by omega)
          replace k3 := kept hb3 k3 (by omega)
          replace c0 := kept hb3 c0 (by omega)
          replace c1 := kept hb3 c1 (by omega)
          replace c2 := kept hb3 c2 (by omega)
          replace d0 := kept hb3 d0 (by omega)
          replace d1 := kept hb3 d1 (by omega)
          replace d2 := kept hb3 d2 (by omega)
          have lt3 : w.heap.size < w3.heap.size := by omega
          go_wp2_with fail
          refine (chk_yes HG.out HB.out HR'.out).mono ?_
          rintro e w4 ⟨rfl, hb4⟩
          have z4 := hb4.size
          replace k0 := kept hb4 k0 (by omega)
          replace k1 := kept hb4 k1 (by omega)
          replace k2 := kept hb4 k2 (by omega)
          replace k3 := kept hb4 k3 (by omega)
          replace c0 := kept hb4 c0 (by omega)
          replace c1 := kept hb4 c1 (by omega)
          replace c2 := kept hb4 c2 (by omega)
          replace d0 := kept hb4 d0 (by omega)
          replace d1 := kept hb4 d1 (by omega)
          replace d2 := kept hb4 d2 (by omega)
          have lt4 : w.heap.size < w4.heap.size := by omega
          go_wp2_with fail
          refine (HE.out _).mono ?_
          rintro e w5 ⟨⟨x, hx, rfl⟩, hb5⟩
          have hxa : (x == 0) = false := by simpa using hx
          have hxb : (x != 0) = true := by simpa using hx
          have z5 := hb5.size
          replace k0 := kept hb5 k0 (by omega)
          replace k1 := kept hb5 k1 (by omega)
          replace k2 := kept hb5 k2 (by omega)
          replace k3 := kept hb5 k3 (by omega)
          replace c0 := kept hb5 c0 (by omega)
          replace c1 := kept hb5 c1 (by omega)
          replace c2 := kept hb5 c2 (by omega)
          replace d0 := kept hb5 d0 (by omega)
          replace d1 := kept hb5 d1 (by omega)
          replace d2 := kept hb5 d2 (by omega)
          have lt5 : w.heap.size < w5.heap.size := by omega
          go_wp2_with fail
          refine (chk_yes HG.out H1S.out H1R.out).mono ?_
          rintro e w6 ⟨rfl, hb6⟩
          have z6 := hb6.size
          replace k0 := kept hb6 k0 (by omega)
          replace k1 := kept hb6 k1 (by omega)
          replace k2 := kept hb6 k2 (by omega)
          replace k3 := kept hb6 k3 (by omega)
          replace c0 := kept hb6 c0 (by omega)
          replace c1 := kept hb6 c1 (by omega)
          replace c2 := kept hb6 c2 (by omega)
          replace d0 := kept hb6 d0 (by omega)
          replace d1 := kept hb6 d1 (by omega)
          replace d2 := kept hb6 d2 (by omega)
          have lt6 : w.heap.size < w6.heap.size := by omega
          go_wp2
          go_ret
          exact ⟨ret_bool (by simp), below_two (below_two (below_two (below_two (below_two (below_two ((((Below.refl _ _).alloc (Nat.le_refl _) _).alloc (by simp) _).alloc (by simp <;> omega) _) hb1) hb2) hb3) hb4) hb5) hb6⟩
        · have HR := Lib.hid hr
          rcases hr' : rightB P G (pw G s P) f' q' v' with _ | _
          · have HR' := Lib.hid hr'
            have HE := Lib.hid fun w => Extract_no3 P Q G H (pw G s P) f q v f' q' v' w hg ha hb hr hr'
            clear h hg hG ha hb hr hr'
            go_enter Try.func11, Try.ntmps11
            go_wp2_with fail
            refine (group_Public P Q G H s _ HSH.out).mono ?_
            rintro e w1 ⟨rfl, hb1⟩
            have c0 := kept hb1 (b := w.heap.size + 1) (o := 0) (v := .int .i64 f) (by simp [go_sem]) (by simp [go_sem] <;> omega)
            have c1 := kept hb1 (b := w.heap.size + 1) (o := 1) (v := .int .i64 q) (by simp [go_sem]) (by simp [go_sem] <;> omega)
            have c2 := kept hb1 (b := w.heap.size + 1) (o := 2) (v := .int .i64 v) (by simp [go_sem]) (by simp [go_sem] <;> omega)
            have d0 := kept hb1 (b := w.heap.size + 1 + 1) (o := 0) (v := .int .i64 f') (by simp [go_sem]) (by simp [go_sem] <;> omega)
            have d1 := kept hb1 (b := w.heap.size + 1 + 1) (o := 1) (v := .int .i64 q') (by simp [go_sem]) (by simp [go_sem] <;> omega)
            have d2 := kept hb1 (b := w.heap.size + 1 + 1) (o := 2) (v := .int .i64 v') (by simp [go_sem]) (by simp [go_sem] <;> omega)
            have z1 := hb1.size
            simp at z1
            have k0 := kept hb1 (b := w.heap.size) (o := 0) (v := .int .i64 P) (by simp [go_sem]) (by simp [go_sem] <;> omega)
            have k1 := kept hb1 (b := w.heap.size) (o := 1) (v := .int .i64 Q) (by simp [go_sem]) (by simp [go_sem] <;> omega)
            have k2 := kept hb1 (b := w.heap.size) (o := 2) (v := .int .i64 G) (by simp [go_sem]) (by simp [go_sem] <;> omega)
            have k3 := kept hb1 (b := w.heap.size) (o := 3) (v := .int .i64 H) (by simp [go_sem]) (by simp [go_sem] <;> omega)
            go_wp2_with fail
            refine (keep_powers P Q G H _ 1 [s] _ ?r1 (by simp)).mono ?_
            case r1 => exact RowI.one (by simp [go_sem]) (by simp [go_sem])
            rintro e w2 ⟨rfl, hb2⟩
            rw [HPW.out]
            have z2 := hb2.size
            simp at z2
            replace hb2 := below_two ((Below.refl _ w1).alloc (Nat.le_refl _) _) hb2
            replace k0 := kept hb2 k0 (by omega)
            replace k1 := kept hb2 k1 (by omega)
            replace k2 := kept hb2 k2 (by omega)
            replace k3 := kept hb2 k3 (by omega)
            replace c0 := kept hb2 c0 (by omega)
            replace c1 := kept hb2 c1 (by omega)
            replace c2 := kept hb2 c2 (by omega)
            replace d0 := kept hb2 d0 (by omega)
            replace d1 := kept hb2 d1 (by omega)
            replace d2 := kept hb2 d2 (by omega)
            have lt2 : w.heap.size < w2.heap.size := by omega
            go_wp2_with fail
            refine (chk_yes HG.out HA.out HR.out).mono ?_
            rintro e w3 ⟨rfl, hb3⟩
            have z3 := hb3.size
            replace k0 := kept hb3 k0 (by omega)
            replace k1 := kept hb3 k1 (by omega)
            replace k2 := kept hb3 k2 (by omega)
            replace k3 := kept hb3 k3 (by omega)
            replace c0 := kept hb3 c0 (by omega)
            replace c1 := kept hb3 c1 (by omega)
            replace c2 := kept hb3 c2 (by omega)
            replace d0 := kept hb3 d0 (by omega)
            replace d1 := kept hb3 d1 (by omega)
            replace d2 := kept hb3 d2 (by omega)
            have lt3 : w.heap.size < w3.heap.size := by omega
            go_wp2_with fail
            refine (chk_yes HG.out HB.out HR'.out).mono ?_
            rintro e w4 ⟨rfl, hb4⟩
            have z4 := hb4.size
            replace k0 := kept hb4 k0 (by omega)
            replace k1 := kept hb4 k1 (by omega)
            replace k2 := kept hb4 k2 (by omega)
            replace k3 := kept hb4 k3 (by omega)
            replace c0 := kept hb4 c0 (by omega)
            replace c1 := kept hb4 c1 (by omega)
            replace c2 := kept hb4 c2 (by omega)
            replace d0 := kept hb4 d0 (by omega)
            replace d1 := kept hb4 d1 (by omega)
            replace d2 := kept hb4 d2 (by omega)
            have lt4 : w.heap.size < w4.heap.size := by omega
            go_wp2_with fail
            refine (HE.out _).mono ?_
            rintro e w5 ⟨⟨x, hx, rfl⟩, hb5⟩
            have hxa : (x == 0) = false := by simpa using hx
            have hxb : (x != 0) = true := by simpa using hx
            have z5 := hb5.size
            replace k0 := kept hb5 k0 (by omega)
            replace k1 := kept hb5 k1 (by omega)
            replace k2 := kept hb5 k2 (by omega)
            replace k3 := kept hb5 k3 (by omega)
            replace c0 := kept hb5 c0 (by omega)
            replace c1 := kept hb5 c1 (by omega)
            replace c2 := kept hb5 c2 (by omega)
            replace d0 := kept hb5 d0 (by omega)
            replace d1 := kept hb5 d1 (by omega)
            replace d2 := kept hb5 d2 (by omega)
            have lt5 : w.heap.size < w5.heap.size := by omega
            go_wp2_with fail
            refine (chk_yes HG.out H1S.out H1R.out).mono ?_
            rintro e w6 ⟨rfl, hb6⟩
            have z6 := hb6.size
            replace k0 := kept hb6 k0 (by omega)
            replace k1 := kept hb6 k1 (by omega)
            replace k2 := kept hb6 k2 (by omega)
            replace k3 := kept hb6 k3 (by omega)
            replace c0 := kept hb6 c0 (by omega)
            replace c1 := kept hb6 c1 (by omega)
            replace c2 := kept hb6 c2 (by omega)
            replace d0 := kept hb6 d0 (by omega)
            replace d1 := kept hb6 d1 (by omega)
            replace d2 := kept hb6 d2 (by omega)
            have lt6 : w.heap.size < w6.heap.size := by omega
            go_wp2
            go_ret
            exact ⟨ret_bool (by simp), below_two (below_two (below_two (below_two (below_two (below_two ((((Below.refl _ _).alloc (Nat.le_refl _) _).alloc (by simp) _).alloc (by simp <;> omega) _) hb1) hb2) hb3) hb4) hb5) hb6⟩
          · have HR' := Lib.hid hr'
            by_cases hf : f = f'
            · have e1 : (f == f') = true := by simpa using hf
              have e2 : (f != f') = false := by simpa using hf
              by_cases hq : q = q'
              · have e3 : (q == q') = true := by simpa using hq
                have HE := Lib.hid fun w => Extract_no5 P Q G H (pw G s P) f q v f' q' v' w hg ha hb hr hr' hf hq
                clear h hg hG ha hb hr hr' hf hq
                go_enter Try.func11, Try.ntmps11
                go_wp2_with fail
                refine (group_Public P Q G H s _ HSH.out).mono ?_
                rintro e w1 ⟨rfl, hb1⟩
                have c0 := kept hb1 (b := w.heap.size + 1) (o := 0) (v := .int .i64 f) (by simp [go_sem]) (by simp [go_sem] <;> omega)
                have c1 := kept hb1 (b := w.heap.size + 1) (o := 1) (v := .int .i64 q) (by simp [go_sem]) (by simp [go_sem] <;> omega)
                have c2 := kept hb1 (b := w.heap.size + 1) (o := 2) (v := .int .i64 v) (by simp [go_sem]) (by simp [go_sem] <;> omega)
                have d0 := kept hb1 (b := w.heap.size + 1 + 1) (o := 0) (v := .int .i64 f') (by simp [go_sem]) (by simp [go_sem] <;> omega)
                have d1 := kept hb1 (b := w.heap.size + 1 + 1) (o := 1) (v := .int .i64 q') (by simp [go_sem]) (by simp [go_sem] <;> omega)
                have d2 := kept hb1 (b := w.heap.size + 1 + 1) (o := 2) (v := .int .i64 v') (by simp [go_sem]) (by simp [go_sem] <;> omega)
                have z1 := hb1.size
                simp at z1
                have k0 := kept hb1 (b := w.heap.size) (o := 0) (v := .int .i64 P) (by simp [go_sem]) (by simp [go_sem] <;> omega)
                have k1 := kept hb1 (b := w.heap.size) (o := 1) (v := .int .i64 Q) (by simp [go_sem]) (by simp [go_sem] <;> omega)
                have k2 := kept hb1 (b := w.heap.size) (o := 2) (v := .int .i64 G) (by simp [go_sem]) (by simp [go_sem] <;> omega)
                have k3 := kept hb1 (b := w.heap.size) (o := 3) (v := .int .i64 H) (by simp [go_sem]) (by simp [go_sem] <;> omega)
                go_wp2_with fail
                refine (keep_powers P Q G H _ 1 [s] _ ?r1 (by simp)).mono ?_
                case r1 => exact RowI.one (by simp [go_sem]) (by simp [go_sem])
                rintro e w2 ⟨rfl, hb2⟩
                rw [HPW.out]
                have z2 := hb2.size
                simp at z2
                replace hb2 := below_two ((Below.refl _ w1).alloc (Nat.le_refl _) _) hb2
                replace k0 := kept hb2 k0 (by omega)
                replace k1 := kept hb2 k1 (by omega)
                replace k2 := kept hb2 k2 (by omega)
                replace k3 := kept hb2 k3 (by omega)
                replace c0 := kept hb2 c0 (by omega)
                replace c1 := kept hb2 c1 (by omega)
                replace c2 := kept hb2 c2 (by omega)
                replace d0 := kept hb2 d0 (by omega)
                replace d1 := kept hb2 d1 (by omega)
                replace d2 := kept hb2 d2 (by omega)
                have lt2 : w.heap.size < w2.heap.size := by omega
                go_wp2_with fail
                refine (chk_yes HG.out HA.out HR.out).mono ?_
                rintro e w3 ⟨rfl, hb3⟩
                have z3 := hb3.size
                replace k0 := kept hb3 k0 (by omega)
                replace k1 := kept hb3 k1 (by omega)
                replace k2 := kept hb3 k2 (by omega)
                replace k3 := kept hb3 k3 (by omega)
                replace c0 := kept hb3 c0 (by omega)
                replace c1 := kept hb3 c1 (by omega)
                replace c2 := kept hb3 c2 (by omega)
                replace d0 := kept hb3 d0 (by omega)
                replace d1 := kept hb3 d1 (by omega)
                replace d2 := kept hb3 d2 (by omega)
                have lt3 : w.heap.size < w3.heap.size := by omega
                go_wp2_with fail
                refine (chk_yes HG.out HB.out HR'.out).mono ?_
                rintro e w4 ⟨rfl, hb4⟩
                have z4 := hb4.size
                replace k0 := kept hb4 k0 (by omega)
                replace k1 := kept hb4 k1 (by omega)
                replace k2 := kept hb4 k2 (by omega)
                replace k3 := kept hb4 k3 (by omega)
                replace c0 := kept hb4 c0 (by omega)
                replace c1 := kept hb4 c1 (by omega)
                replace c2 := kept hb4 c2 (by omega)
                replace d0 := kept hb4 d0 (by omega)
                replace d1 := kept hb4 d1 (by omega)
                replace d2 := kept hb4 d2 (by omega)
                have lt4 : w.heap.size < w4.heap.size := by omega
                go_wp2_with fail
                refine (HE.out _).mono ?_
                rintro e w5 ⟨⟨x, hx, rfl⟩, hb5⟩
                have hxa : (x == 0) = false := by simpa using hx
                have hxb : (x != 0) = true := by simpa using hx
                have z5 := hb5.size
                replace k0 := kept hb5 k0 (by omega)
                replace k1 := kept hb5 k1 (by omega)
                replace k2 := kept hb5 k2 (by omega)
                replace k3 := kept hb5 k3 (by omega)
                replace c0 := kept hb5 c0 (by omega)
                replace c1 := kept hb5 c1 (by omega)
                replace c2 := kept hb5 c2 (by omega)
                replace d0 := kept hb5 d0 (by omega)
                replace d1 := kept hb5 d1 (by omega)
                replace d2 := kept hb5 d2 (by omega)
                have lt5 : w.heap.size < w5.heap.size := by omega
                go_wp2_with fail
                refine (chk_yes HG.out H1S.out H1R.out).mono ?_
                rintro e w6 ⟨rfl, hb6⟩
                have z6 := hb6.size
                replace k0 := kept hb6 k0 (by omega)
                replace k1 := kept hb6 k1 (by omega)
                replace k2 := kept hb6 k2 (by omega)
                replace k3 := kept hb6 k3 (by omega)
                replace c0 := kept hb6 c0 (by omega)
                replace c1 := kept hb6 c1 (by omega)
                replace c2 := kept hb6 c2 (by omega)
                replace d0 := kept hb6 d0 (by omega)
                replace d1 := kept hb6 d1 (by omega)
                replace d2 := kept hb6 d2 (by omega)
                have lt6 : w.heap.size < w6.heap.size := by omega
                go_wp2
                go_ret
                exact ⟨ret_bool (by simp), below_two (below_two (below_two (below_two (below_two (below_two ((((Below.refl _ _).alloc (Nat.le_refl _) _).alloc (by simp) _).alloc (by simp <;> omega) _) hb1) hb2) hb3) hb4) hb5) hb6⟩
              · have e3 : (q == q') = false := by simpa using hq
                have HE := Lib.hid fun w => talk_Extract P Q G H s f q v q' v' w hg ⟨s1, s2⟩ ha (by rw [hf]; exact hb) hr (by rw [hf]; exact hr') hq
                have HE : Hid (∀ w, Calls Try.prog 28 #[.agg #[.int .i64 P, .int .i64 Q, .int .i64 G, .int .i64 H], .int .i64 (pw G s P), .agg #[.int .i64 f, .int .i64 q, .int .i64 v], .agg #[.int .i64 f', .int .i64 q', .int .i64 v']] w fun e w' => e = .returned (.tuple #[.int .i64 s, .int .i64 0]) ∧ Below w.heap.size w w') := Lib.hid fun w => by
                  have := HE.out w; rw [← hf]; exact this
                clear h hg hG ha hb hr hr' hf hq
                go_enter Try.func11, Try.ntmps11
                go_wp2_with fail
                refine (group_Public P Q G H s _ HSH.out).mono ?_
                rintro e w1 ⟨rfl, hb1⟩
                have c0 := kept hb1 (b := w.heap.size + 1) (o := 0) (v := .int .i64 f) (by simp [go_sem]) (by simp [go_sem] <;> omega)
                have c1 := kept hb1 (b := w.heap.size + 1) (o := 1) (v := .int .i64 q) (by simp [go_sem]) (by simp [go_sem] <;> omega)
                have c2 := kept hb1 (b := w.heap.size + 1) (o := 2) (v := .int .i64 v) (by simp [go_sem]) (by simp [go_sem] <;> omega)
                have d0 := kept hb1 (b := w.heap.size + 1 + 1) (o := 0) (v := .int .i64 f') (by simp [go_sem]) (by simp [go_sem] <;> omega)
                have d1 := kept hb1 (b := w.heap.size + 1 + 1) (o := 1) (v := .int .i64 q') (by simp [go_sem]) (by simp [go_sem] <;> omega)
                have d2 := kept hb1 (b := w.heap.size + 1 + 1) (o := 2) (v := .int .i64 v') (by simp [go_sem]) (by simp [go_sem] <;> omega)
                have z1 := hb1.size
                simp at z1
                have k0 := kept hb1 (b := w.heap.size) (o := 0) (v := .int .i64 P) (by simp [go_sem]) (by simp [go_sem] <;> omega)
                have k1 := kept hb1 (b := w.heap.size) (o := 1) (v := .int .i64 Q) (by simp [go_sem]) (by simp [go_sem] <;> omega)
                have k2 := kept hb1 (b := w.heap.size) (o := 2) (v := .int .i64 G) (by simp [go_sem]) (by simp [go_sem] <;> omega)
                have k3 := kept hb1 (b := w.heap.size) (o := 3) (v := .int .i64 H) (by simp [go_sem]) (by simp [go_sem] <;> omega)
                go_wp2_with fail
                refine (keep_powers P Q G H _ 1 [s] _ ?r1 (by simp)).mono ?_
                case r1 => exact RowI.one (by simp [go_sem]) (by simp [go_sem])
                rintro e w2 ⟨rfl, hb2⟩
                rw [HPW.out]
                have z2 := hb2.size
                simp at z2
                replace hb2 := below_two ((Below.refl _ w1).alloc (Nat.le_refl _) _) hb2
                replace k0 := kept hb2 k0 (by omega)
                replace k1 := kept hb2 k1 (by omega)
                replace k2 := kept hb2 k2 (by omega)
                replace k3 := kept hb2 k3 (by omega)
                replace c0 := kept hb2 c0 (by omega)
                replace c1 := kept hb2 c1 (by omega)
                replace c2 := kept hb2 c2 (by omega)
                replace d0 := kept hb2 d0 (by omega)
                replace d1 := kept hb2 d1 (by omega)
                replace d2 := kept hb2 d2 (by omega)
                have lt2 : w.heap.size < w2.heap.size := by omega
                go_wp2_with fail
                refine (chk_yes HG.out HA.out HR.out).mono ?_
                rintro e w3 ⟨rfl, hb3⟩
                have z3 := hb3.size
                replace k0 := kept hb3 k0 (by omega)
                replace k1 := kept hb3 k1 (by omega)
                replace k2 := kept hb3 k2 (by omega)
                replace k3 := kept hb3 k3 (by omega)
                replace c0 := kept hb3 c0 (by omega)
                replace c1 := kept hb3 c1 (by omega)
                replace c2 := kept hb3 c2 (by omega)
                replace d0 := kept hb3 d0 (by omega)
                replace d1 := kept hb3 d1 (by omega)
                replace d2 := kept hb3 d2 (by omega)
                have lt3 : w.heap.size < w3.heap.size := by omega
                go_wp2_with fail
                refine (chk_yes HG.out HB.out HR'.out).mono ?_
                rintro e w4 ⟨rfl, hb4⟩
                have z4 := hb4.size
                replace k0 := kept hb4 k0 (by omega)
                replace k1 := kept hb4 k1 (by omega)
                replace k2 := kept hb4 k2 (by omega)
                replace k3 := kept hb4 k3 (by omega)
                replace c0 := kept hb4 c0 (by omega)
                replace c1 := kept hb4 c1 (by omega)
                replace c2 := kept hb4 c2 (by omega)
                replace d0 := kept hb4 d0 (by omega)
                replace d1 := kept hb4 d1 (by omega)
                replace d2 := kept hb4 d2 (by omega)
                have lt4 : w.heap.size < w4.heap.size := by omega
                go_wp2_with fail
                refine (HE.out _).mono ?_
                rintro e w5 ⟨rfl, hb5⟩
                have z5 := hb5.size
                replace k0 := kept hb5 k0 (by omega)
                replace k1 := kept hb5 k1 (by omega)
                replace k2 := kept hb5 k2 (by omega)
                replace k3 := kept hb5 k3 (by omega)
                replace c0 := kept hb5 c0 (by omega)
                replace c1 := kept hb5 c1 (by omega)
                replace c2 := kept hb5 c2 (by omega)
                replace d0 := kept hb5 d0 (by omega)
                replace d1 := kept hb5 d1 (by omega)
                replace d2 := kept hb5 d2 (by omega)
                have lt5 : w.heap.size < w5.heap.size := by omega
                go_wp2_with fail
                refine (chk_yes HG.out H1S.out H1R.out).mono ?_
                rintro e w6 ⟨rfl, hb6⟩
                have z6 := hb6.size
                replace k0 := kept hb6 k0 (by omega)
                replace k1 := kept hb6 k1 (by omega)
                replace k2 := kept hb6 k2 (by omega)
                replace k3 := kept hb6 k3 (by omega)
                replace c0 := kept hb6 c0 (by omega)
                replace c1 := kept hb6 c1 (by omega)
                replace c2 := kept hb6 c2 (by omega)
                replace d0 := kept hb6 d0 (by omega)
                replace d1 := kept hb6 d1 (by omega)
                replace d2 := kept hb6 d2 (by omega)
                have lt6 : w.heap.size < w6.heap.size := by omega
                go_wp2
                go_ret
                exact ⟨ret_bool (by simp), below_two (below_two (below_two (below_two (below_two (below_two ((((Below.refl _ _).alloc (Nat.le_refl _) _).alloc (by simp) _).alloc (by simp <;> omega) _) hb1) hb2) hb3) hb4) hb5) hb6⟩
            · have e1 : (f == f') = false := by simpa using hf
              have e2 : (f != f') = true := by simpa using hf
              have HE := Lib.hid fun w => Extract_no4 P Q G H (pw G s P) f q v f' q' v' w hg ha hb hr hr' hf
              clear h hg hG ha hb hr hr' hf
              go_enter Try.func11, Try.ntmps11
              go_wp2_with fail
              refine (group_Public P Q G H s _ HSH.out).mono ?_
              rintro e w1 ⟨rfl, hb1⟩
              have c0 := kept hb1 (b := w.heap.size + 1) (o := 0) (v := .int .i64 f) (by simp [go_sem]) (by simp [go_sem] <;> omega)
              have c1 := kept hb1 (b := w.heap.size + 1) (o := 1) (v := .int .i64 q) (by simp [go_sem]) (by simp [go_sem] <;> omega)
              have c2 := kept hb1 (b := w.heap.size + 1) (o := 2) (v := .int .i64 v) (by simp [go_sem]) (by simp [go_sem] <;> omega)
              have d0 := kept hb1 (b := w.heap.size + 1 + 1) (o := 0) (v := .int .i64 f') (by simp [go_sem]) (by simp [go_sem] <;> omega)
              have d1 := kept hb1 (b := w.heap.size + 1 + 1) (o := 1) (v := .int .i64 q') (by simp [go_sem]) (by simp [go_sem] <;> omega)
              have d2 := kept hb1 (b := w.heap.size + 1 + 1) (o := 2) (v := .int .i64 v') (by simp [go_sem]) (by simp [go_sem] <;> omega)
              have z1 := hb1.size
              simp at z1
              have k0 := kept hb1 (b := w.heap.size) (o := 0) (v := .int .i64 P) (by simp [go_sem]) (by simp [go_sem] <;> omega)
              have k1 := kept hb1 (b := w.heap.size) (o := 1) (v := .int .i64 Q) (by simp [go_sem]) (by simp [go_sem] <;> omega)
              have k2 := kept hb1 (b := w.heap.size) (o := 2) (v := .int .i64 G) (by simp [go_sem]) (by simp [go_sem] <;> omega)
              have k3 := kept hb1 (b := w.heap.size) (o := 3) (v := .int .i64 H) (by simp [go_sem]) (by simp [go_sem] <;> omega)
              go_wp2_with fail
              refine (keep_powers P Q G H _ 1 [s] _ ?r1 (by simp)).mono ?_
              case r1 => exact RowI.one (by simp [go_sem]) (by simp [go_sem])
              rintro e w2 ⟨rfl, hb2⟩
              rw [HPW.out]
              have z2 := hb2.size
              simp at z2
              replace hb2 := below_two ((Below.refl _ w1).alloc (Nat.le_refl _) _) hb2
              replace k0 := kept hb2 k0 (by omega)
              replace k1 := kept hb2 k1 (by omega)
              replace k2 := kept hb2 k2 (by omega)
              replace k3 := kept hb2 k3 (by omega)
              replace c0 := kept hb2 c0 (by omega)
              replace c1 := kept hb2 c1 (by omega)
              replace c2 := kept hb2 c2 (by omega)
              replace d0 := kept hb2 d0 (by omega)
              replace d1 := kept hb2 d1 (by omega)
              replace d2 := kept hb2 d2 (by omega)
              have lt2 : w.heap.size < w2.heap.size := by omega
              go_wp2_with fail
              refine (chk_yes HG.out HA.out HR.out).mono ?_
              rintro e w3 ⟨rfl, hb3⟩
              have z3 := hb3.size
              replace k0 := kept hb3 k0 (by omega)
              replace k1 := kept hb3 k1 (by omega)
              replace k2 := kept hb3 k2 (by omega)
              replace k3 := kept hb3 k3 (by omega)
              replace c0 := kept hb3 c0 (by omega)
              replace c1 := kept hb3 c1 (by omega)
              replace c2 := kept hb3 c2 (by omega)
              replace d0 := kept hb3 d0 (by omega)
              replace d1 := kept hb3 d1 (by omega)
              replace d2 := kept hb3 d2 (by omega)
              have lt3 : w.heap.size < w3.heap.size := by omega
              go_wp2_with fail
              refine (chk_yes HG.out HB.out HR'.out).mono ?_
              rintro e w4 ⟨rfl, hb4⟩
              have z4 := hb4.size
              replace k0 := kept hb4 k0 (by omega)
              replace k1 := kept hb4 k1 (by omega)
              replace k2 := kept hb4 k2 (by omega)
              replace k3 := kept hb4 k3 (by omega)
              replace c0 := kept hb4 c0 (by omega)
              replace c1 := kept hb4 c1 (by omega)
              replace c2 := kept hb4 c2 (by omega)
              replace d0 := kept hb4 d0 (by omega)
              replace d1 := kept hb4 d1 (by omega)
              replace d2 := kept hb4 d2 (by omega)
              have lt4 : w.heap.size < w4.heap.size := by omega
              go_wp2_with fail
              refine (HE.out _).mono ?_
              rintro e w5 ⟨⟨x, hx, rfl⟩, hb5⟩
              have hxa : (x == 0) = false := by simpa using hx
              have hxb : (x != 0) = true := by simpa using hx
              have z5 := hb5.size
              replace k0 := kept hb5 k0 (by omega)
              replace k1 := kept hb5 k1 (by omega)
              replace k2 := kept hb5 k2 (by omega)
              replace k3 := kept hb5 k3 (by omega)
              replace c0 := kept hb5 c0 (by omega)
              replace c1 := kept hb5 c1 (by omega)
              replace c2 := kept hb5 c2 (by omega)
              replace d0 := kept hb5 d0 (by omega)
              replace d1 := kept hb5 d1 (by omega)
              replace d2 := kept hb5 d2 (by omega)
              have lt5 : w.heap.size < w5.heap.size := by omega
              go_wp2_with fail
              refine (chk_yes HG.out H1S.out H1R.out).mono ?_
              rintro e w6 ⟨rfl, hb6⟩
              have z6 := hb6.size
              replace k0 := kept hb6 k0 (by omega)
              replace k1 := kept hb6 k1 (by omega)
              replace k2 := kept hb6 k2 (by omega)
              replace k3 := kept hb6 k3 (by omega)
              replace c0 := kept hb6 c0 (by omega)
              replace c1 := kept hb6 c1 (by omega)
              replace c2 := kept hb6 c2 (by omega)
              replace d0 := kept hb6 d0 (by omega)
              replace d1 := kept hb6 d1 (by omega)
              replace d2 := kept hb6 d2 (by omega)
              have lt6 : w.heap.size < w6.heap.size := by omega
              go_wp2
              go_ret
              exact ⟨ret_bool (by simp), below_two (below_two (below_two (below_two (below_two (below_two ((((Below.refl _ _).alloc (Nat.le_refl _) _).alloc (by simp) _).alloc (by simp <;> omega) _) hb1) hb2) hb3) hb4) hb5) hb6⟩
  · have HPW := Lib.hid (pows_not (b := powsB Q [s] && (grpE P Q G H == 0)) fun e => h (by simp [powsB] at e; exact (shE_own e.2).2 e.1))
    obtain ⟨t, ht⟩ : ∃ t, shE P Q G H s G = t := ⟨_, rfl⟩
    have ht0 : ¬ t = 0 := fun h' => h (ht.trans h')
    have hta : (t == 0) = false := by simpa using ht0
    have htb : (t != 0) = true := by simpa using ht0
    have HA := Lib.hid h
    have HT := Lib.hid ht
    clear h ht
    go_enter Try.func11, Try.ntmps11
    go_wp2_with fail
    refine (group_Public_no P Q G H s _ HA.out).mono ?_
    rintro e w1 ⟨rfl, hb1⟩
    rw [HT.out]
    have c0 := kept hb1 (b := w.heap.size + 1) (o := 0) (v := .int .i64 f) (by simp [go_sem]) (by simp [go_sem] <;> omega)
    have c1 := kept hb1 (b := w.heap.size + 1) (o := 1) (v := .int .i64 q) (by simp [go_sem]) (by simp [go_sem] <;> omega)
    have c2 := kept hb1 (b := w.heap.size + 1) (o := 2) (v := .int .i64 v) (by simp [go_sem]) (by simp [go_sem] <;> omega)
    have d0 := kept hb1 (b := w.heap.size + 1 + 1) (o := 0) (v := .int .i64 f') (by simp [go_sem]) (by simp [go_sem] <;> omega)
    have d1 := kept hb1 (b := w.heap.size + 1 + 1) (o := 1) (v := .int .i64 q') (by simp [go_sem]) (by simp [go_sem] <;> omega)
    have d2 := kept hb1 (b := w.heap.size + 1 + 1) (o := 2) (v := .int .i64 v') (by simp [go_sem]) (by simp [go_sem] <;> omega)
    have z1 := hb1.size
    simp at z1
    have k0 := kept hb1 (b := w.heap.size) (o := 0) (v := .int .i64 P) (by simp [go_sem]) (by simp [go_sem] <;> omega)
    have k1 := kept hb1 (b := w.heap.size) (o := 1) (v := .int .i64 Q) (by simp [go_sem]) (by simp [go_sem] <;> omega)
    have k2 := kept hb1 (b := w.heap.size) (o := 2) (v := .int .i64 G) (by simp [go_sem]) (by simp [go_sem] <;> omega)
    have k3 := kept hb1 (b := w.heap.size) (o := 3) (v := .int .i64 H) (by simp [go_sem]) (by simp [go_sem] <;> omega)
    go_wp2_with fail
    refine (keep_powers P Q G H _ 1 [s] _ ?r1 (by simp)).mono ?_
    case r1 => exact RowI.one (by simp [go_sem]) (by simp [go_sem])
    rintro e w2 ⟨rfl, hb2⟩
    rw [HPW.out]
    have z2 := hb2.size
    simp at z2
    replace hb2 := below_two ((Below.refl _ w1).alloc (Nat.le_refl _) _) hb2
    replace k0 := kept hb2 k0 (by omega)
    replace k1 := kept hb2 k1 (by omega)
    replace k2 := kept hb2 k2 (by omega)
    replace k3 := kept hb2 k3 (by omega)
    replace c0 := kept hb2 c0 (by omega)
    replace c1 := kept hb2 c1 (by omega)
    replace c2 := kept hb2 c2 (by omega)
    replace d0 := kept hb2 d0 (by omega)
    replace d1 := kept hb2 d1 (by omega)
    replace d2 := kept hb2 d2 (by omega)
    have lt2 : w.heap.size < w2.heap.size := by omega
    go_wp2
    go_ret
    exact ⟨ret_bool (by simp), below_two (below_two ((((Below.refl _ _).alloc (Nat.le_refl _) _).alloc (by simp) _).alloc (by simp <;> omega) _) hb1) hb2⟩
end Go.Proofs.Ytgmkmlfppblpfaa
