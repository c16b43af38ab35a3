/- The contract of curve.Times. -/
import Derived.Test.YtnheboamjfahaaaCur6
namespace Go.Proofs.Ytnheboamjfahaaa
open Go.RowKit
set_option linter.unusedVariables false
set_option linter.unusedSimpArgs false
theorem C3.set3 {W : World} {b : Nat} {s : Sp} (h : C3 W b s) (x y : Int) (f : Bool) : C3 (((W.setCell ⟨b, 0, none⟩ (.int .i64 x)).setCell ⟨b, 1, none⟩ (.int .i64 y)).setCell ⟨b, 2, none⟩ (.bool f)) b ⟨x, y, f⟩ := by
  obtain ⟨⟨h0, h1, h2⟩, f0, f1, f2⟩ := h
  unfold C3
  simp [go_sem, h0, h1, h2, f0, f1, f2]
theorem C3.set3_other {W : World} {b b' : Nat} {s : Sp} (h : C3 W b s) (hne : b' ≠ b) (u v t : Value) : C3 (((W.setCell ⟨b', 0, none⟩ u).setCell ⟨b', 1, none⟩ v).setCell ⟨b', 2, none⟩ t) b s := by
  obtain ⟨⟨h0, h1, h2⟩, f0, f1, f2⟩ := h
  have hne' : ¬ b = b' := fun e => hne e.symm
  unfold C3
  simp [go_sem, h0, h1, h2, f0, f1, f2, hne, hne']
def CC (W : World) (b : Nat) (p a c : Int) : Prop := W.cell? ⟨b, 0, none⟩ = some (.int .i64 p) ∧ W.cell? ⟨b, 1, none⟩ = some (.int .i64 a) ∧ W.cell? ⟨b, 2, none⟩ = some (.int .i64 c)
theorem CC.below {W W' : World} {b : Nat} {p a c : Int} (h : CC W b p a c) (hb : Below W.heap.size W W') : CC W' b p a c :=
  have hl : b < W.heap.size := World.block_lt_of_cell? _ _ h.1
  ⟨kept hb h.1 hl, kept hb h.2.1 hl, kept hb h.2.2 hl⟩
theorem CC.set3_other {W : World} {b b' : Nat} {p a c : Int} (h : CC W b p a c) (hne : b' ≠ b) (u v t : Value) : CC (((W.setCell ⟨b', 0, none⟩ u).setCell ⟨b', 1, none⟩ v).setCell ⟨b', 2, none⟩ t) b p a c := by
  obtain ⟨h0, h1, h2⟩ := h
  have hne' : ¬ b = b' := fun e => hne e.symm
  unfold CC
  simp [go_sem, h0, h1, h2, hne, hne']
set_option maxHeartbeats 3200000 in
theorem curve_Times_bad (p a b k : Int) (s : Sp) (w : World) (h : ¬ spE p a b [s] = 0) :
    Calls Try.prog 11 #[.agg #[.int .i64 p, .int .i64 a, .int .i64 b], .int .i64 k, .agg #[.int .i64 s.x, .int .i64 s.y, .bool s.far]] w fun e w' => e = .returned (.tuple #[.agg #[.int .i64 0, .int .i64 0, .bool false], .int .i64 (spE p a b [s])]) ∧ Below w.heap.size w w' := by
  have HC := Lib.hid fun ap cp w hr => spots_no p a b ap cp [s] w hr (by simp) h
  obtain ⟨x, hx⟩ : ∃ x, spE p a b [s] = x := ⟨_, rfl⟩
  rw [hx] at h HC ⊢
  clear hx
  have e1 : (x == 0) = false := by simpa using h
  have e2 : (x != 0) = true := by simpa using h
  go_enter Try.func11, Try.ntmps11
  go_wp2_with fail
  refine (HC.out _ 1 _ ?r1).mono ?_
  case r1 => exact RowS.one (by simp [go_sem]) (by simp [go_sem]) (by simp [go_sem]) (by simp [go_sem] <;> omega)
  rintro e w1 ⟨rfl, hb1⟩
  have z1 := hb1.size
  simp at z1
  have KR : C3 w1 (w.heap.size + 1 + 1) ⟨0, 0, false⟩ := ⟨⟨kept hb1 (by simp [go_sem]) (by simp [go_sem] <;> omega), kept hb1 (by simp [go_sem]) (by simp [go_sem] <;> omega), kept hb1 (by simp [go_sem]) (by simp [go_sem] <;> omega)⟩, (froz hb1 (by simp [go_sem] <;> omega)).trans (by simp [go_sem]), (froz hb1 (by simp [go_sem] <;> omega)).trans (by simp [go_sem]), (froz hb1 (by simp [go_sem] <;> omega)).trans (by simp [go_sem])⟩
  have hbw := below_two ((((Below.refl _ _).alloc (Nat.le_refl _) _).alloc (by simp) _).alloc (by simp; omega) _ |>.alloc (by simp; omega) _) hb1
  have hA0 : Below w1.heap.size w1 (w1.alloc (.cells #[.int .i64 0, .int .i64 0, .int .i64 0] 39)) := (Below.refl _ _).alloc (Nat.le_refl _) _
  obtain ⟨⟨r0, r1, r2⟩, f0, f1, f2⟩ := KR.below hA0 (by omega)
  have hbz := below_two hbw hA0
  clear hb1 hbw hA0 KR
  go_wp2
  refine bodyPost_ret (v := .tuple #[.agg #[.int .i64 0, .int .i64 0, .bool false], .int .i64 x]) ?_ rfl ?_
  · simp [results, Try.results11, go_sem, r0, r1, r2]
  · exact ⟨rfl, ((hbz.setCell (by simp <;> omega) _).setCell (by simp <;> omega) _).setCell (by simp <;> omega) _⟩
set_option maxHeartbeats 6400000 in
theorem curve_Times (p a b : Int) (K0 : Nat) (s0 : Sp) (w : World) (h : spE p a b [s0] = 0) (hk : K0 ≤ 2147483648) :
    Calls Try.prog 11 #[.agg #[.int .i64 p, .int .i64 a, .int .i64 b], .int .i64 K0, .agg #[.int .i64 s0.x, .int .i64 s0.y, .bool s0.far]] w fun e w' =>
      e = .returned (.tuple #[.agg #[.int .i64 (mulS p.toNat a K0 s0).x, .int .i64 (mulS p.toNat a K0 s0).y, .bool (mulS p.toNat a K0 s0).far], .int .i64 0]) ∧ Below w.heap.size w w' := by
  have HC := Lib.hid fun ap cp w hr => spots_ok p a b ap cp [s0] w hr (by simp) h
  have HG := Lib.hid (spE_zero h).1
  have HS0 := Lib.hid ((spE_zero h).2 s0 (by simp))
  obtain ⟨R, hR⟩ : ∃ R, mulS p.toNat a K0 s0 = R := ⟨_, rfl⟩
  rw [hR]
  have HR := Lib.hid hR
  clear hR h
  go_enter Try.func11, Try.ntmps11
  go_wp2_with fail
  refine (HC.out _ 1 _ ?r1).mono ?_
  case r1 => exact RowS.one (by simp [go_sem]) (by simp [go_sem]) (by simp [go_sem]) (by simp [go_sem] <;> omega)
  rintro e w1 ⟨rfl, hb1⟩
  have z1 := hb1.size
  simp at z1
  have KS : C3 w1 (w.heap.size + 1) s0 := ⟨⟨kept hb1 (by simp [go_sem]) (by simp [go_sem] <;> omega), kept hb1 (by simp [go_sem]) (by simp [go_sem] <;> omega), kept hb1 (by simp [go_sem]) (by simp [go_sem] <;> omega)⟩, (froz hb1 (by simp [go_sem] <;> omega)).trans (by simp [go_sem]), (froz hb1 (by simp [go_sem] <;> omega)).trans (by simp [go_sem]), (froz hb1 (by simp [go_sem] <;> omega)).trans (by simp [go_sem])⟩
  have KR : C3 w1 (w.heap.size + 1 + 1) ⟨0, 0, false⟩ := ⟨⟨kept hb1 (by simp [go_sem]) (by simp [go_sem] <;> omega), kept hb1 (by simp [go_sem]) (by simp [go_sem] <;> omega), kept hb1 (by simp [go_sem]) (by simp [go_sem] <;> omega)⟩, (froz hb1 (by simp [go_sem] <;> omega)).trans (by simp [go_sem]), (froz hb1 (by simp [go_sem] <;> omega)).trans (by simp [go_sem]), (froz hb1 (by simp [go_sem] <;> omega)).trans (by simp [go_sem])⟩
  have hbw := below_two ((((Below.refl _ _).alloc (Nat.le_refl _) _).alloc (by simp) _).alloc (by simp; omega) _ |>.alloc (by simp; omega) _) hb1
  go_wp2
  obtain ⟨w2, hw2⟩ : ∃ W, W = (w1.alloc (.cells #[.int .i64 p, .int .i64 a, .int .i64 b] 39)).alloc (.cells #[.int .i64 0, .int .i64 0, .bool true] 30) := ⟨_, rfl⟩
  have hA0 : Below w1.heap.size w1 w2 := by rw [hw2]; exact ((Below.refl _ _).alloc (Nat.le_refl _) _).alloc (by simp) _
  have KC : CC w2 w1.heap.size p a b := by rw [hw2]; exact ⟨by simp [go_sem], by simp [go_sem], by simp [go_sem]⟩
  have KU : C3 w2 (w1.heap.size + 1) farS := by rw [hw2]; exact ⟨⟨by simp [go_sem, farS], by simp [go_sem, farS], by simp [go_sem, farS]⟩, by simp [go_sem], by simp [go_sem], by simp [go_sem]⟩
  replace KS := KS.below hA0 (by omega)
  replace KR := KR.below hA0 (by omega)
  have hbz := below_two hbw hA0
  rw [← hw2]
  clear hw2 hA0 hbw hb1
  have z3 : w.heap.size + 1 + 1 < w1.heap.size := by omega
  obtain ⟨b1, hb1⟩ : ∃ b1, w.heap.size + 1 = b1 := ⟨_, rfl⟩
  obtain ⟨b2, hb2⟩ : ∃ b1, w.heap.size + 1 + 1 = b1 := ⟨_, rfl⟩
  obtain ⟨b3, hb3⟩ : ∃ b1, w1.heap.size = b1 := ⟨_, rfl⟩
  obtain ⟨b4, hb4⟩ : ∃ b1, w1.heap.size + 1 = b1 := ⟨_, rfl⟩
  have g1 : w.heap.size ≤ b1 := by omega
  have g2 : w.heap.size ≤ b2 := by omega
  have g4 : w.heap.size ≤ b4 := by omega
  have d12 : b1 ≠ b2 := by omega
  have d13 : b1 ≠ b3 := by omega
  have d14 : b1 ≠ b4 := by omega
  have d23 : b2 ≠ b3 := by omega
  have d24 : b2 ≠ b4 := by omega
  have d34 : b3 ≠ b4 := by omega
  simp only [hb2] at KR ⊢
  simp only [hb1] at KS ⊢
  simp only [hb4] at KU ⊢
  simp only [hb3] at KC ⊢
  clear hb1 hb2 hb3 hb4 z1 z3
  go_loopw [1] (fun kv wr => ∃ (K : Nat) (u s : Sp), kv = .int .i64 K ∧ K ≤ 2147483648 ∧ Hid (OnC p.toNat a b u ∧ OnC p.toNat a b s ∧ addS p.toNat a u (mulS p.toNat a K s) = R) ∧ C3 wr b1 s ∧ C3 wr b2 ⟨0, 0, false⟩ ∧ CC wr b3 p a b ∧ C3 wr b4 u ∧ Below w.heap.size w wr) (fun kv _ => (intOf kv).toNat)
  case atStart => exact ⟨K0, farS, s0, rfl, hk, Lib.hid ⟨OnC.farS _ _ _, HS0.out, by rw [far_add]; exact HR.out⟩, KS, KR, KC, KU, hbz⟩
  case round =>
    obtain ⟨K, u, s, rfl, hK, HI, CS, CR, CV, CU, hb⟩ := hrel
    clear KS KR KC KU hbz
    have l1 := CS.lt
    have l2 := CR.lt
    have l3 : b3 < wr.heap.size := World.block_lt_of_cell? _ _ CV.1
    have l4 := CU.lt
    have n12 : ¬ b1 = b2 := d12
    have n13 : ¬ b1 = b3 := d13
    have n14 : ¬ b1 = b4 := d14
    have n23 : ¬ b2 = b3 := d23
    have n24 : ¬ b2 = b4 := d24
    have n34 : ¬ b3 = b4 := d34
    have HP5 : Hid (5 ≤ p.toNat) := Lib.hid (by have := HG.out.p5; omega)
    by_cases hz : 0 < K
    · have HADD := Lib.hid fun w => add_p p a b u s w HG.out HI.out.1 HI.out.2.1
      have HDBL := Lib.hid fun w => add_p p a b s s w HG.out HI.out.2.1 HI.out.2.1
      have HST := Lib.hid (times_step HG.out.pr HP5.out HG.out.disc HI.out.1 HI.out.2.1 HI.out.2.2)
      have HUS := Lib.hid (OnC.add HG.out.pr HP5.out HI.out.1 HI.out.2.1)
      have HSS := Lib.hid (OnC.add HG.out.pr HP5.out HI.out.2.1 HI.out.2.1)
      have HU := Lib.hid HI.out.1
      obtain ⟨us, hus⟩ : ∃ us, addS p.toNat a u s = us := ⟨_, rfl⟩
      obtain ⟨ss, hss⟩ : ∃ ss, addS p.toNat a s s = ss := ⟨_, rfl⟩
      rw [hus] at HADD HST HUS
      rw [hss] at HDBL HST HSS
      clear hus hss
      have HA := Lib.hid (and_one_i64 K (by omega) (by omega))
      have OP := fun (W : World) (b : Nat) (s : Sp) (h : C3 W b s) => h
      by_cases ho : K % 2 = 1
      · have ho' : (bits BinOp.and IntKind.i64 K 1 == 1) = true := by rw [HA.out]; simp; omega
        have HT := HST
        rw [if_pos ho] at HT
        clear HST ho
        obtain ⟨⟨s0', s1', s2'⟩, fs0, fs1, fs2⟩ := id CS
        obtain ⟨⟨u0', u1', u2'⟩, fu0, fu1, fu2⟩ := id CU
        obtain ⟨v0', v1', v2'⟩ := id CV
        go_wp2_with fail
        refine (HADD.out _).mono ?_
        rintro e w5 ⟨rfl, hb5⟩
        clear s0' s1' s2' fs0 fs1 fs2 u0' u1' u2' fu0 fu1 fu2 v0' v1' v2'
        replace CS := CS.below hb5 l1
        replace CR := CR.below hb5 l2
        replace CV := CV.below hb5
        replace CU := CU.below hb5 l4
        have z5 := hb5.size
        have hb6 := hb.trans (hb5.mono hb.size)
        clear hb5
        obtain ⟨⟨s0', s1', s2'⟩, fs0, fs1, fs2⟩ := id CS
        obtain ⟨⟨u0', u1', u2'⟩, fu0, fu1, fu2⟩ := id CU
        obtain ⟨v0', v1', v2'⟩ := id CV
        have e0 := (CV.set3_other (b' := b4) (Ne.symm d34) (.int .i64 us.x) (.int .i64 us.y) (.bool us.far))
        obtain ⟨e0', e1', e2'⟩ := id e0
        go_wp2_with fail
        refine (HDBL.out _).mono ?_
        rintro e w7 ⟨rfl, hb7⟩
        clear s0' s1' s2' fs0 fs1 fs2 u0' u1' u2' fu0 fu1 fu2 v0' v1' v2' e0' e1' e2' e0
        replace CS := (CS.set3_other (Ne.symm d14) (.int .i64 us.x) (.int .i64 us.y) (.bool us.far)).below hb7 (by simp <;> omega)
        replace CR := (CR.set3_other (Ne.symm d24) (.int .i64 us.x) (.int .i64 us.y) (.bool us.far)).below hb7 (by simp <;> omega)
        replace CV := (CV.set3_other (Ne.symm d34) (.int .i64 us.x) (.int .i64 us.y) (.bool us.far)).below hb7
        replace CU := (CU.set3 us.x us.y us.far).below hb7 (by simp <;> omega)
        have hb8 := (((hb6.setCell (show w.heap.size ≤ (⟨b4, 0, none⟩ : Addr).block from g4) (.int .i64 us.x)).setCell (show w.heap.size ≤ (⟨b4, 1, none⟩ : Addr).block from g4) (.int .i64 us.y)).setCell (show w.heap.size ≤ (⟨b4, 2, none⟩ : Addr).block from g4) (.bool us.far)).trans (hb7.mono (by have := hb6.size; simp; omega))
        clear hb7 hb6 hb
        obtain ⟨⟨s0', s1', s2'⟩, fs0, fs1, fs2⟩ := id CS
        go_wp2
        go_roundw
        case rel =>
          refine ⟨K / 2, us, ss, by go_num, by omega, Lib.hid ⟨HUS.out, HSS.out, HT.out⟩, CS.set3 ss.x ss.y ss.far, CR.set3_other d12 _ _ _, CV.set3_other d13 _ _ _, CU.set3_other d14 _ _ _, ((hb8.setCell (show w.heap.size ≤ (⟨b1, 0, none⟩ : Addr).block from g1) _).setCell (show w.heap.size ≤ (⟨b1, 1, none⟩ : Addr).block from g1) _).setCell (show w.heap.size ≤ (⟨b1, 2, none⟩ : Addr).block from g1) _⟩
        case measure => simp [intOf]; omega
      · have ho' : (bits BinOp.and IntKind.i64 K 1 == 1) = false := by rw [HA.out]; simp; omega
        have HT := HST
        rw [if_neg ho] at HT
        clear HST ho
        obtain ⟨⟨s0', s1', s2'⟩, fs0, fs1, fs2⟩ := id CS
        obtain ⟨⟨u0', u1', u2'⟩, fu0, fu1, fu2⟩ := id CU
        obtain ⟨v0', v1', v2'⟩ := id CV
        go_wp2_with fail
        refine (HDBL.out _).mono ?_
        rintro e w7 ⟨rfl, hb7⟩
        clear s0' s1' s2' fs0 fs1 fs2 u0' u1' u2' fu0 fu1 fu2 v0' v1' v2'
        replace CS := CS.below hb7 l1
        replace CR := CR.below hb7 l2
        replace CV := CV.below hb7
        replace CU := CU.below hb7 l4
        have hb8 := hb.trans (hb7.mono hb.size)
        clear hb7 hb
        obtain ⟨⟨s0', s1', s2'⟩, fs0, fs1, fs2⟩ := id CS
        go_wp2
        go_roundw
        case rel =>
          refine ⟨K / 2, u, ss, by go_num, by omega, Lib.hid ⟨HU.out, HSS.out, HT.out⟩, CS.set3 ss.x ss.y ss.far, CR.set3_other d12 _ _ _, CV.set3_other d13 _ _ _, CU.set3_other d14 _ _ _, ((hb8.setCell (show w.heap.size ≤ (⟨b1, 0, none⟩ : Addr).block from g1) _).setCell (show w.heap.size ≤ (⟨b1, 1, none⟩ : Addr).block from g1) _).setCell (show w.heap.size ≤ (⟨b1, 2, none⟩ : Addr).block from g1) _⟩
        case measure => simp [intOf]; omega
    · obtain rfl : K = 0 := by omega
      have HE : Hid (u = R) := Lib.hid (by have := HI.out.2.2; rwa [show mulS p.toNat a 0 s = farS from rfl, add_far HI.out.1] at this)
      obtain ⟨⟨r0', r1', r2'⟩, fr0, fr1, fr2⟩ := id CR
      obtain ⟨⟨u0', u1', u2'⟩, fu0, fu1, fu2⟩ := id CU
      go_wp2
      refine bodyPost_ret (v := .tuple #[.agg #[.int .i64 u.x, .int .i64 u.y, .bool u.far], .int .i64 0]) ?_ rfl ?_
      · simp [results, Try.results11, go_sem, r0', r1', r2']
      · exact ⟨by rw [HE.out], ((hb.setCell (show w.heap.size ≤ (⟨b2, 0, none⟩ : Addr).block from g2) _).setCell (show w.heap.size ≤ (⟨b2, 1, none⟩ : Addr).block from g2) _).setCell (show w.heap.size ≤ (⟨b2, 2, none⟩ : Addr).block from g2) _⟩
end Go.Proofs.Ytnheboamjfahaaa
