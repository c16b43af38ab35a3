/- talk.Extract where nothing is to be had, and the walk of the statement TalkSound. -/
import Derived.Test.YtgmkmlfppblpfaaTk6
namespace Go.Proofs.Ytgmkmlfppblpfaa
open Go.RowKit
set_option linter.unusedVariables false
set_option linter.unusedSimpArgs false
set_option maxHeartbeats 3200000 in
theorem Extract_no1 (P Q G H X f q v f' q' v' : Int) (w : World) (hg : grpE P Q G H = 0) (h1 : saidB P Q X [(f, q, v), (f', q', v')] = false) :
    Calls Try.prog 28 #[.agg #[.int .i64 P, .int .i64 Q, .int .i64 G, .int .i64 H], .int .i64 X, .agg #[.int .i64 f, .int .i64 q, .int .i64 v], .agg #[.int .i64 f', .int .i64 q', .int .i64 v']] w fun e w' => (∃ t : Int, ¬ t = 0 ∧ e = .returned (.tuple #[.int .i64 0, .int .i64 t])) ∧ Below w.heap.size w w' := by
  have HG := Lib.hid hg
  have HT := Lib.hid h1
  clear hg h1
  go_enter Try.func28, Try.ntmps28
  go_wp2_with fail
  refine (talk_said P Q G H X _ 2 [(f, q, v), (f', q', v')] _ ?r1 (by simp) HG.out).mono ?_
  case r1 => exact RowT.two (by simp [go_sem]) (by simp [go_sem]) (by simp [go_sem]) (by simp [go_sem]) (by simp [go_sem]) (by simp [go_sem]) (by simp [go_sem] <;> omega)
  rintro e w1 ⟨⟨hs, rfl⟩ | ⟨hs, t, ht, rfl⟩, hb1⟩
  · exact absurd (HT.out.symm.trans hs) (by simp)
  · have hta : (t == 0) = false := by simpa using ht
    have htb : (t != 0) = true := by simpa using ht
    clear hs
    go_wp2
    go_ret2
    exact ⟨⟨t, ht, rfl⟩, below_two ((((Below.refl _ _).alloc (Nat.le_refl _) _).alloc (by simp) _).alloc (by simp <;> omega) _ |>.alloc (by simp <;> omega) _) hb1⟩
set_option maxHeartbeats 3200000 in
theorem Extract_no2 (P Q G H X f q v f' q' v' : Int) (w : World) (hg : grpE P Q G H = 0) (h1 : saidB P Q X [(f, q, v)] = true) (h2 : saidB P Q X [(f', q', v')] = true) (h3 : rightB P G X f q v = false) :
    Calls Try.prog 28 #[.agg #[.int .i64 P, .int .i64 Q, .int .i64 G, .int .i64 H], .int .i64 X, .agg #[.int .i64 f, .int .i64 q, .int .i64 v], .agg #[.int .i64 f', .int .i64 q', .int .i64 v']] w fun e w' => (∃ t : Int, ¬ t = 0 ∧ e = .returned (.tuple #[.int .i64 0, .int .i64 t])) ∧ Below w.heap.size w w' := by
  have HG := Lib.hid hg
  have HT : Hid (saidB P Q X [(f, q, v), (f', q', v')] = true) := Lib.hid (by rw [said_two, h1, h2]; rfl)
  obtain ⟨⟨⟨q1, q2⟩, v1, v2⟩, hy, hf⟩ := said_one.1 h1
  obtain ⟨⟨⟨q1', q2'⟩, v1', v2'⟩, _, hf'⟩ := said_one.1 h2
  obtain ⟨f1, f2, _⟩ := memB_iff.1 hf
  obtain ⟨f1', f2', _⟩ := memB_iff.1 hf'
  have ⟨⟨g1, g2, g3, g4, g5, _⟩, _⟩ := grpE_zero hg
  have HR1 := Lib.hid (fun w => talk_right P Q G H X f q v w (by omega) g2 ⟨by omega, f2⟩ ⟨q1, by omega⟩ ⟨v1, by omega⟩)
  have HR2 := Lib.hid (fun w => talk_right P Q G H X f' q' v' w (by omega) g2 ⟨by omega, f2'⟩ ⟨q1', by omega⟩ ⟨v1', by omega⟩)
  have H3 := Lib.hid h3
  clear h3
  clear hg h1 h2 hf hf' hy
  go_enter Try.func28, Try.ntmps28
  go_wp2_with fail
  refine (talk_said P Q G H X _ 2 [(f, q, v), (f', q', v')] _ ?r1 (by simp) HG.out).mono ?_
  case r1 => exact RowT.two (by simp [go_sem]) (by simp [go_sem]) (by simp [go_sem]) (by simp [go_sem]) (by simp [go_sem]) (by simp [go_sem]) (by simp [go_sem] <;> omega)
  rintro e w1 ⟨⟨hs, rfl⟩ | ⟨hs, t, ht, rfl⟩, hb1⟩
  · clear hs
    have z1 := hb1.size
    simp at z1
    have k0 := kept hb1 (b := w.heap.size) (o := 0) (v := .int .i64 P) (by simp [go_sem]) (by simp [go_sem] <;> omega)
    have k1 := kept hb1 (b := w.heap.size) (o := 1) (v := .int .i64 Q) (by simp [go_sem]) (by simp [go_sem] <;> omega)
    have k2 := kept hb1 (b := w.heap.size) (o := 2) (v := .int .i64 G) (by simp [go_sem]) (by simp [go_sem] <;> omega)
    have k3 := kept hb1 (b := w.heap.size) (o := 3) (v := .int .i64 H) (by simp [go_sem]) (by simp [go_sem] <;> omega)
    have c0 := kept hb1 (b := w.heap.size + 1) (o := 0) (v := .int .i64 f) (by simp [go_sem]) (by simp [go_sem] <;> omega)
    have c1 := kept hb1 (b := w.heap.size + 1) (o := 1) (v := .int .i64 q) (by simp [go_sem]) (by simp [go_sem] <;> omega)
    have c2 := kept hb1 (b := w.heap.size + 1) (o := 2) (v := .int .i64 v) (by simp [go_sem]) (by simp [go_sem] <;> omega)
    have d0 := kept hb1 (b := w.heap.size + 1 + 1) (o := 0) (v := .int .i64 f') (by simp [go_sem]) (by simp [go_sem] <;> omega)
    have d1 := kept hb1 (b := w.heap.size + 1 + 1) (o := 1) (v := .int .i64 q') (by simp [go_sem]) (by simp [go_sem] <;> omega)
    have d2 := kept hb1 (b := w.heap.size + 1 + 1) (o := 2) (v := .int .i64 v') (by simp [go_sem]) (by simp [go_sem] <;> omega)
    have hbw : Below w.heap.size w w1 := below_two ((((Below.refl _ _).alloc (Nat.le_refl _) _).alloc (by simp) _).alloc (by simp <;> omega) _ |>.alloc (by simp <;> omega) _) hb1
    clear hb1
    go_wp2_with fail
    refine (HR1.out _).mono ?_
    rintro e w2 ⟨rfl, hb2⟩
    rw [H3.out]
    have z2 := hb2.size
    replace k0 := kept hb2 k0 (by omega)
    replace k1 := kept hb2 k1 (by omega)
    replace k2 := kept hb2 k2 (by omega)
    replace k3 := kept hb2 k3 (by omega)
    replace c0 := kept hb2 c0 (by omega)
    replace c1 := kept hb2 c1 (by omega)
    replace c2 := kept hb2 c2 (by omega)
    replace d0 := kept hb2 d0 (by omega)
    replace d1 := kept hb2 d1 (by omega)
    replace d2 := kept hb2 d2 (by omega)
    replace hbw := below_two hbw hb2
    clear hb2
    go_wp2
    go_ret2
    exact ⟨⟨3, by decide, rfl⟩, hbw⟩
  · exact absurd (HT.out.symm.trans hs) (by simp)
set_option maxHeartbeats 3200000 in
theorem Extract_no3 (P Q G H X f q v f' q' v' : Int) (w : World) (hg : grpE P Q G H = 0) (h1 : saidB P Q X [(f, q, v)] = true) (h2 : saidB P Q X [(f', q', v')] = true) (h3 : rightB P G X f q v = true) (h4 : rightB P G X f' q' v' = false) :
    Calls Try.prog 28 #[.agg #[.int .i64 P, .int .i64 Q, .int .i64 G, .int .i64 H], .int .i64 X, .agg #[.int .i64 f, .int .i64 q, .int .i64 v], .agg #[.int .i64 f', .int .i64 q', .int .i64 v']] w fun e w' => (∃ t : Int, ¬ t = 0 ∧ e = .returned (.tuple #[.int .i64 0, .int .i64 t])) ∧ Below w.heap.size w w' := by
  have HG := Lib.hid hg
  have HT : Hid (saidB P Q X [(f, q, v), (f', q', v')] = true) := Lib.hid (by rw [said_two, h1, h2]; rfl)
  obtain ⟨⟨⟨q1, q2⟩, v1, v2⟩, hy, hf⟩ := said_one.1 h1
  obtain ⟨⟨⟨q1', q2'⟩, v1', v2'⟩, _, hf'⟩ := said_one.1 h2
  obtain ⟨f1, f2, _⟩ := memB_iff.1 hf
  obtain ⟨f1', f2', _⟩ := memB_iff.1 hf'
  have ⟨⟨g1, g2, g3, g4, g5, _⟩, _⟩ := grpE_zero hg
  have HR1 := Lib.hid (fun w => talk_right P Q G H X f q v w (by omega) g2 ⟨by omega, f2⟩ ⟨q1, by omega⟩ ⟨v1, by omega⟩)
  have HR2 := Lib.hid (fun w => talk_right P Q G H X f' q' v' w (by omega) g2 ⟨by omega, f2'⟩ ⟨q1', by omega⟩ ⟨v1', by omega⟩)
  have H3 := Lib.hid h3
  have H4 := Lib.hid h4
  clear h3 h4
  clear hg h1 h2 hf hf' hy
  go_enter Try.func28, Try.ntmps28
  go_wp2_with fail
  refine (talk_said P Q G H X _ 2 [(f, q, v), (f', q', v')] _ ?r1 (by simp) HG.out).mono ?_
  case r1 => exact RowT.two (by simp [go_sem]) (by simp [go_sem]) (by simp [go_sem]) (by simp [go_sem]) (by simp [go_sem]) (by simp [go_sem]) (by simp [go_sem] <;> omega)
  rintro e w1 ⟨⟨hs, rfl⟩ | ⟨hs, t, ht, rfl⟩, hb1⟩
  · clear hs
    have z1 := hb1.size
    simp at z1
    have k0 := kept hb1 (b := w.heap.size) (o := 0) (v := .int .i64 P) (by simp [go_sem]) (by simp [go_sem] <;> omega)
    have k1 := kept hb1 (b := w.heap.size) (o := 1) (v := .int .i64 Q) (by simp [go_sem]) (by simp [go_sem] <;> omega)
    have k2 := kept hb1 (b := w.heap.size) (o := 2) (v := .int .i64 G) (by simp [go_sem]) (by simp [go_sem] <;> omega)
    have k3 := kept hb1 (b := w.heap.size) (o := 3) (v := .int .i64 H) (by simp [go_sem]) (by simp [go_sem] <;> omega)
    have c0 := kept hb1 (b := w.heap.size + 1) (o := 0) (v := .int .i64 f) (by simp [go_sem]) (by simp [go_sem] <;> omega)
    have c1 := kept hb1 (b := w.heap.size + 1) (o := 1) (v := .int .i64 q) (by simp [go_sem]) (by simp [go_sem] <;> omega)
    have c2 := kept hb1 (b := w.heap.size + 1) (o := 2) (v := .int .i64 v) (by simp [go_sem]) (by simp [go_sem] <;> omega)
    have d0 := kept hb1 (b := w.heap.size + 1 + 1) (o := 0) (v := .int .i64 f') (by simp [go_sem]) (by simp [go_sem] <;> omega)
    have d1 := kept hb1 (b := w.heap.size + 1 + 1) (o := 1) (v := .int .i64 q') (by simp [go_sem]) (by simp [go_sem] <;> omega)
    have d2 := kept hb1 (b := w.heap.size + 1 + 1) (o := 2) (v := .int .i64 v') (by simp [go_sem]) (by simp [go_sem] <;> omega)
    have hbw : Below w.heap.size w w1 := below_two ((((Below.refl _ _).alloc (Nat.le_refl _) _).alloc (by simp) _).alloc (by simp <;> omega) _ |>.alloc (by simp <;> omega) _) hb1
    clear hb1
    go_wp2_with fail
    refine (HR1.out _).mono ?_
    rintro e w2 ⟨rfl, hb2⟩
    rw [H3.out]
    have z2 := hb2.size
    replace k0 := kept hb2 k0 (by omega)
    replace k1 := kept hb2 k1 (by omega)
    replace k2 := kept hb2 k2 (by omega)
    replace k3 := kept hb2 k3 (by omega)
    replace c0 := kept hb2 c0 (by omega)
    replace c1 := kept hb2 c1 (by omega)
    replace c2 := kept hb2 c2 (by omega)
    replace d0 := kept hb2 d0 (by omega)
    replace d1 := kept hb2 d1 (by omega)
    replace d2 := kept hb2 d2 (by omega)
    replace hbw := below_two hbw hb2
    clear hb2
    go_wp2_with fail
    refine (HR2.out _).mono ?_
    rintro e w3 ⟨rfl, hb3⟩
    rw [H4.out]
    have z3 := hb3.size
    replace k0 := kept hb3 k0 (by omega)
    replace k1 := kept hb3 k1 (by omega)
    replace k2 := kept hb3 k2 (by omega)
    replace k3 := kept hb3 k3 (by omega)
    replace c0 := kept hb3 c0 (by omega)
    replace c1 := kept hb3 c1 (by omega)
    replace c2 := kept hb3 c2 (by omega)
    replace d0 := kept hb3 d0 (by omega)
    replace d1 := kept hb3 d1 (by omega)
    replace d2 := kept hb3 d2 (by omega)
    replace hbw := below_two hbw hb3
    clear hb3
    go_wp2
    go_ret2
    exact ⟨⟨3, by decide, rfl⟩, hbw⟩
  · exact absurd (HT.out.symm.trans hs) (by simp)
set_option maxHeartbeats 3200000 in
theorem Extract_no4 (P Q G H X f q v f' q' v' : Int) (w : World) (hg : grpE P Q G H = 0) (h1 : saidB P Q X [(f, q, v)] = true) (h2 : saidB P Q X [(f', q', v')] = true) (h3 : rightB P G X f q v = true) (h4 : rightB P G X f' q' v' = true) (h5 : ¬ f = f') :
    Calls Try.prog 28 #[.agg #[.int .i64 P, .int .i64 Q, .int .i64 G, .int .i64 H], .int .i64 X, .agg #[.int .i64 f, .int .i64 q, .int .i64 v], .agg #[.int .i64 f', .int .i64 q', .int .i64 v']] w fun e w' => (∃ t : Int, ¬ t = 0 ∧ e = .returned (.tuple #[.int .i64 0, .int .i64 t])) ∧ Below w.heap.size w w' := by
  have HG := Lib.hid hg
  have HT : Hid (saidB P Q X [(f, q, v), (f', q', v')] = true) := Lib.hid (by rw [said_two, h1, h2]; rfl)
  obtain ⟨⟨⟨q1, q2⟩, v1, v2⟩, hy, hf⟩ := said_one.1 h1
  obtain ⟨⟨⟨q1', q2'⟩, v1', v2'⟩, _, hf'⟩ := said_one.1 h2
  obtain ⟨f1, f2, _⟩ := memB_iff.1 hf
  obtain ⟨f1', f2', _⟩ := memB_iff.1 hf'
  have ⟨⟨g1, g2, g3, g4, g5, _⟩, _⟩ := grpE_zero hg
  have HR1 := Lib.hid (fun w => talk_right P Q G H X f q v w (by omega) g2 ⟨by omega, f2⟩ ⟨q1, by omega⟩ ⟨v1, by omega⟩)
  have HR2 := Lib.hid (fun w => talk_right P Q G H X f' q' v' w (by omega) g2 ⟨by omega, f2'⟩ ⟨q1', by omega⟩ ⟨v1', by omega⟩)
  have H3 := Lib.hid h3
  have H4 := Lib.hid h4
  have e1 : (f == f') = false := by simpa using h5
  have e2 : (f != f') = true := by simpa using h5
  clear h3 h4 h5
  clear hg h1 h2 hf hf' hy
  go_enter Try.func28, Try.ntmps28
  go_wp2_with fail
  refine (talk_said P Q G H X _ 2 [(f, q, v), (f', q', v')] _ ?r1 (by simp) HG.out).mono ?_
  case r1 => exact RowT.two (by simp [go_sem]) (by simp [go_sem]) (by simp [go_sem]) (by simp [go_sem]) (by simp [go_sem]) (by simp [go_sem]) (by simp [go_sem] <;> omega)
  rintro e w1 ⟨⟨hs, rfl⟩ | ⟨hs, t, ht, rfl⟩, hb1⟩
  · clear hs
    have z1 := hb1.size
    simp at z1
    have k0 := kept hb1 (b := w.heap.size) (o := 0) (v := .int .i64 P) (by simp [go_sem]) (by simp [go_sem] <;> omega)
    have k1 := kept hb1 (b := w.heap.size) (o := 1) (v := .int .i64 Q) (by simp [go_sem]) (by simp [go_sem] <;> omega)
    have k2 := kept hb1 (b := w.heap.size) (o := 2) (v := .int .i64 G) (by simp [go_sem]) (by simp [go_sem] <;> omega)
    have k3 := kept hb1 (b := w.heap.size) (o := 3) (v := .int .i64 H) (by simp [go_sem]) (by simp [go_sem] <;> omega)
    have c0 := kept hb1 (b := w.heap.size + 1) (o := 0) (v := .int .i64 f) (by simp [go_sem]) (by simp [go_sem] <;> omega)
    have c1 := kept hb1 (b := w.heap.size + 1) (o := 1) (v := .int .i64 q) (by simp [go_sem]) (by simp [go_sem] <;> omega)
    have c2 := kept hb1 (b := w.heap.size + 1) (o := 2) (v := .int .i64 v) (by simp [go_sem]) (by simp [go_sem] <;> omega)
    have d0 := kept hb1 (b := w.heap.size + 1 + 1) (o := 0) (v := .int .i64 f') (by simp [go_sem]) (by simp [go_sem] <;> omega)
    have d1 := kept hb1 (b := w.heap.size + 1 + 1) (o := 1) (v := .int .i64 q') (by simp [go_sem]) (by simp [go_sem] <;> omega)
    have d2 := kept hb1 (b := w.heap.size + 1 + 1) (o := 2) (v := .int .i64 v') (by simp [go_sem]) (by simp [go_sem] <;> omega)
    have hbw : Below w.heap.size w w1 := below_two ((((Below.refl _ _).alloc (Nat.le_refl _) _).alloc (by simp) _).alloc (by simp <;> omega) _ |>.alloc (by simp <;> omega) _) hb1
    clear hb1
    go_wp2_with fail
    refine (HR1.out _).mono ?_
    rintro e w2 ⟨rfl, hb2⟩
    rw [H3.out]
    have z2 := hb2.size
    replace k0 := kept hb2 k0 (by omega)
    replace k1 := kept hb2 k1 (by omega)
    replace k2 := kept hb2 k2 (by omega)
    replace k3 := kept hb2 k3 (by omega)
    replace c0 := kept hb2 c0 (by omega)
    replace c1 := kept hb2 c1 (by omega)
    replace c2 := kept hb2 c2 (by omega)
    replace d0 := kept hb2 d0 (by omega)
    replace d1 := kept hb2 d1 (by omega)
    replace d2 := kept hb2 d2 (by omega)
    replace hbw := below_two hbw hb2
    clear hb2
    go_wp2_with fail
    refine (HR2.out _).mono ?_
    rintro e w3 ⟨rfl, hb3⟩
    rw [H4.out]
    have z3 := hb3.size
    replace k0 := kept hb3 k0 (by omega)
    replace k1 := kept hb3 k1 (by omega)
    replace k2 := kept hb3 k2 (by omega)
    replace k3 := kept hb3 k3 (by omega)
    replace c0 := kept hb3 c0 (by omega)
    replace c1 := kept hb3 c1 (by omega)
    replace c2 := kept hb3 c2 (by omega)
    replace d0 := kept hb3 d0 (by omega)
    replace d1 := kept hb3 d1 (by omega)
    replace d2 := kept hb3 d2 (by omega)
    replace hbw := below_two hbw hb3
    clear hb3
    go_wp2
    go_ret2
    exact ⟨⟨3, by decide, rfl⟩, hbw⟩
  · exact absurd (HT.out.symm.trans hs) (by simp)
set_option maxHeartbeats 3200000 in
theorem Extract_no5 (P Q G H X f q v f' q' v' : Int) (w : World) (hg : grpE P Q G H = 0) (h1 : saidB P Q X [(f, q, v)] = true) (h2 : saidB P Q X [(f', q', v')] = true) (h3 : rightB P G X f q v = true) (h4 : rightB P G X f' q' v' = true) (h5 : f = f') (h6 : q = q') :
    Calls Try.prog 28 #[.agg #[.int .i64 P, .int .i64 Q, .int .i64 G, .int .i64 H], .int .i64 X, .agg #[.int .i64 f, .int .i64 q, .int .i64 v], .agg #[.int .i64 f', .int .i64 q', .int .i64 v']] w fun e w' => (∃ t : Int, ¬ t = 0 ∧ e = .returned (.tuple #[.int .i64 0, .int .i64 t])) ∧ Below w.heap.size w w' := by
  have HG := Lib.hid hg
  have HT : Hid (saidB P Q X [(f, q, v), (f', q', v')] = true) := Lib.hid (by rw [said_two, h1, h2]; rfl)
  obtain ⟨⟨⟨q1, q2⟩, v1, v2⟩, hy, hf⟩ := said_one.1 h1
  obtain ⟨⟨⟨q1', q2'⟩, v1', v2'⟩, _, hf'⟩ := said_one.1 h2
  obtain ⟨f1, f2, _⟩ := memB_iff.1 hf
  obtain ⟨f1', f2', _⟩ := memB_iff.1 hf'
  have ⟨⟨g1, g2, g3, g4, g5, _⟩, _⟩ := grpE_zero hg
  have HR1 := Lib.hid (fun w => talk_right P Q G H X f q v w (by omega) g2 ⟨by omega, f2⟩ ⟨q1, by omega⟩ ⟨v1, by omega⟩)
  have HR2 := Lib.hid (fun w => talk_right P Q G H X f' q' v' w (by omega) g2 ⟨by omega, f2'⟩ ⟨q1', by omega⟩ ⟨v1', by omega⟩)
  have H3 := Lib.hid h3
  have H4 := Lib.hid h4
  have e1 : (f == f') = true := by simpa using h5
  have e2 : (f != f') = false := by simpa using h5
  have e3 : (q == q') = true := by simpa using h6
  clear h3 h4 h5 h6
  clear hg h1 h2 hf hf' hy
  go_enter Try.func28, Try.ntmps28
  go_wp2_with fail
  refine (talk_said P Q G H X _ 2 [(f, q, v), (f', q', v')] _ ?r1 (by simp) HG.out).mono ?_
  case r1 => exact RowT.two (by simp [go_sem]) (by simp [go_sem]) (by simp [go_sem]) (by simp [go_sem]) (by simp [go_sem]) (by simp [go_sem]) (by simp [go_sem] <;> omega)
  rintro e w1 ⟨⟨hs, rfl⟩ | ⟨hs, t, ht, rfl⟩, hb1⟩
  · clear hs
    have z1 := hb1.size
    simp at z1
    have k0 := kept hb1 (b := w.heap.size) (o := 0) (v := .int .i64 P) (by simp [go_sem]) (by simp [go_sem] <;> omega)
    have k1 := kept hb1 (b := w.heap.size) (o := 1) (v := .int .i64 Q) (by simp [go_sem]) (by simp [go_sem] <;> omega)
    have k2 := kept hb1 (b := w.heap.size) (o := 2) (v := .int .i64 G) (by simp [go_sem]) (by simp [go_sem] <;> omega)
    have k3 := kept hb1 (b := w.heap.size) (o := 3) (v := .int .i64 H) (by simp [go_sem]) (by simp [go_sem] <;> omega)
    have c0 := kept hb1 (b := w.heap.size + 1) (o := 0) (v := .int .i64 f) (by simp [go_sem]) (by simp [go_sem] <;> omega)
    have c1 := kept hb1 (b := w.heap.size + 1) (o := 1) (v := .int .i64 q) (by simp [go_sem]) (by simp [go_sem] <;> omega)
    have c2 := kept hb1 (b := w.heap.size + 1) (o := 2) (v := .int .i64 v) (by simp [go_sem]) (by simp [go_sem] <;> omega)
    have d0 := kept hb1 (b := w.heap.size + 1 + 1) (o := 0) (v := .int .i64 f') (by simp [go_sem]) (by simp [go_sem] <;> omega)
    have d1 := kept hb1 (b := w.heap.size + 1 + 1) (o := 1) (v := .int .i64 q') (by simp [go_sem]) (by simp [go_sem] <;> omega)
    have d2 := kept hb1 (b := w.heap.size + 1 + 1) (o := 2) (v := .int .i64 v') (by simp [go_sem]) (by simp [go_sem] <;> omega)
    have hbw : Below w.heap.size w w1 := below_two ((((Below.refl _ _).alloc (Nat.le_refl _) _).alloc (by simp) _).alloc (by simp <;> omega) _ |>.alloc (by simp <;> omega) _) hb1
    clear hb1
    go_wp2_with fail
    refine (HR1.out _).mono ?_
    rintro e w2 ⟨rfl, hb2⟩
    rw [H3.out]
    have z2 := hb2.size
    replace k0 := kept hb2 k0 (by omega)
    replace k1 := kept hb2 k1 (by omega)
    replace k2 := kept hb2 k2 (by omega)
    replace k3 := kept hb2 k3 (by omega)
    replace c0 := kept hb2 c0 (by omega)
    replace c1 := kept hb2 c1 (by omega)
    replace c2 := kept hb2 c2 (by omega)
    replace d0 := kept hb2 d0 (by omega)
    replace d1 := kept hb2 d1 (by omega)
    replace d2 := kept hb2 d2 (by omega)
    replace hbw := below_two hbw hb2
    clear hb2
    go_wp2_with fail
    refine (HR2.out _).mono ?_
    rintro e w3 ⟨rfl, hb3⟩
    rw [H4.out]
    have z3 := hb3.size
    replace k0 := kept hb3 k0 (by omega)
    replace k1 := kept hb3 k1 (by omega)
    replace k2 := kept hb3 k2 (by omega)
    replace k3 := kept hb3 k3 (by omega)
    replace c0 := kept hb3 c0 (by omega)
    replace c1 := kept hb3 c1 (by omega)
    replace c2 := kept hb3 c2 (by omega)
    replace d0 := kept hb3 d0 (by omega)
    replace d1 := kept hb3 d1 (by omega)
    replace d2 := kept hb3 d2 (by omega)
    replace hbw := below_two hbw hb3
    clear hb3
    go_wp2
    go_ret2
    exact ⟨⟨3, by decide, rfl⟩, hbw⟩
  · exact absurd (HT.out.symm.trans hs) (by simp)
theorem chk_no {P Q G H y f q v : Int} {w : World} (hg : grpE P Q G H = 0) (hs : saidB P Q y [(f, q, v)] = false) :
    Calls Try.prog 27 #[.agg #[.int .i64 P, .int .i64 Q, .int .i64 G, .int .i64 H], .int .i64 y, .agg #[.int .i64 f, .int .i64 q, .int .i64 v]] w fun e w' => (∃ t : Int, ¬ t = 0 ∧ e = .returned (.tuple #[.bool false, .int .i64 t])) ∧ Below w.heap.size w w' := by
  refine (talk_Check P Q G H y f q v w hg).mono ?_
  rintro e w' ⟨⟨h, _⟩ | ⟨_, t, ht, rfl⟩, hb⟩
  · rw [hs] at h; cases h
  · exact ⟨⟨t, ht, rfl⟩, hb⟩
theorem chk_yes {P Q G H y f q v : Int} {w : World} {r : Bool} (hg : grpE P Q G H = 0) (hs : saidB P Q y [(f, q, v)] = true) (hr : rightB P G y f q v = r) :
    Calls Try.prog 27 #[.agg #[.int .i64 P, .int .i64 Q, .int .i64 G, .int .i64 H], .int .i64 y, .agg #[.int .i64 f, .int .i64 q, .int .i64 v]] w fun e w' => e = .returned (.tuple #[.bool r, .int .i64 0]) ∧ Below w.heap.size w w' := by
  refine (talk_Check P Q G H y f q v w hg).mono ?_
  rintro e w' ⟨⟨_, rfl⟩ | ⟨h, _⟩, hb⟩
  · rw [hr]; exact ⟨rfl, hb⟩
  · rw [hs] at h; cases h
theorem chk_any {P Q G H y f q v : Int} {w : World} (hg : grpE P Q G H = 0) :
    Calls Try.prog 27 #[.agg #[.int .i64 P, .int .i64 Q, .int .i64 G, .int .i64 H], .int .i64 y, .agg #[.int .i64 f, .int .i64 q, .int .i64 v]] w fun e w' => (∃ (r : Bool) (t : Int), e = .returned (.tuple #[.bool r, .int .i64 t])) ∧ Below w.heap.size w w' := by
  refine (talk_Check P Q G H y f q v w hg).mono ?_
  rintro e w' ⟨⟨_, rfl⟩ | ⟨_, t, _, rfl⟩, hb⟩
  · exact ⟨⟨_, _, rfl⟩, hb⟩
  · exact ⟨⟨_, _, rfl⟩, hb⟩
end Go.Proofs.Ytgmkmlfppblpfaa
