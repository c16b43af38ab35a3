/- TopExtends. -/
import Derived.Test.YtkodhpjmmiapaaaExW
namespace Go.Proofs.Ytkodhpjmmiapaaa
open Go.RowKit
set_option linter.unusedVariables false
set_option linter.unusedSimpArgs false
open Classical in
set_option maxRecDepth 20000 in
set_option maxHeartbeats 1600000 in
theorem extends_bad (P Q G H : Int) (sa : Option Addr) (sc : Nat) (S : List Int) (ha : Option Addr) (hcap : Nat) (R : Nat → Option Addr × Nat) (L : List Hp) (w : World) (hr : RowL w sa sc S) (hS : S.length ≤ 9223372036854775807) (hL : RowHop w ha R L) (hg : ¬ Good P Q G H S L.length) :
    Calls Try.prog 3 #[.agg #[.int .i64 P, .int .i64 Q, .int .i64 G, .int .i64 H], .slice sa S.length sc, .slice ha L.length hcap] w fun e w' => e = .returned (.bool true) ∧ Below w.heap.size w w' := by
  have HP1 := Lib.hid fun w' (hb : Below w.heap.size w w') => play_any P Q G H sa sc S ha hcap R L w' (hr.below hb (Nat.le_refl _)) (hL.below hb (Nat.le_refl _))
  have HM := Lib.hid fun w' (hb : Below w.heap.size w w') => top_may P Q G H sa sc S ha L.length hcap w' (hr.below hb (Nat.le_refl _)) hS
  rw [decide_eq_false hg] at HM
  have HG := Lib.hid hg
  obtain ⟨sn, hsn⟩ : ∃ n, S.length = n := ⟨_, rfl⟩
  obtain ⟨N, hN⟩ : ∃ n, L.length = n := ⟨_, rfl⟩
  rw [hN] at HP1 HM HG ⊢
  rw [hsn] at HP1 HM ⊢
  clear hg hr hL hsn hN hS
  go_enter Try.func3, Try.ntmps3
  go_wp2_with fail
  refine (HP1.out _ (alloc_below _ _)).mono ?_
  rintro e w1 ⟨lv, c, rfl, hb1, hgo, hno⟩
  obtain ⟨c0, rfl⟩ := hno HG.out
  have x1 : (c == (0 : Int)) = false := by simpa using c0
  have x2 : (c != (0 : Int)) = true := by simpa using c0
  have hb := below_two (alloc_below w _) hb1
  have q0 := kept hb1 (b := w.heap.size) (o := 0) (v := .int .i64 P) (by simp [go_sem]) (by simp)
  have q1 := kept hb1 (b := w.heap.size) (o := 1) (v := .int .i64 Q) (by simp [go_sem]) (by simp)
  have q2 := kept hb1 (b := w.heap.size) (o := 2) (v := .int .i64 G) (by simp [go_sem]) (by simp)
  have q3 := kept hb1 (b := w.heap.size) (o := 3) (v := .int .i64 H) (by simp [go_sem]) (by simp)
  clear hb1 hgo hno c0
  go_wp2_with fail
  refine (HM.out _ hb).mono ?_
  rintro e w2 ⟨rfl, hb2⟩
  have hb3 := below_two hb hb2
  clear hb hb2 q0 q1 q2 q3
  go_wp2
  go_ret
  exact ⟨rfl, hb3⟩
theorem toldF_len : ∀ (A : List Hp) (B : List (Int × List Nat)), (toldF A B).length ≤ A.length
  | [], B => by simp [toldF]
  | a :: A, [] => by simp [toldF]
  | a :: A, b :: B => by
    have := toldF_len A B
    simp only [toldF]
    split <;> simp <;> omega
theorem box_keep {W W' : World} {o' : Obj} {row : Option Nat} (hg : (W.alloc o').grownBy W' row) {b j : Nat} {v : Value} (h : W.cell? ⟨b, j, none⟩ = some v) (hne : ∀ k, row = some k → k < b) : W'.cell? ⟨b, j, none⟩ = some v := by
  have hz : b < W.heap.size := World.block_lt_of_cell? _ _ h
  exact (cell_grown hg (by simp; omega) (fun e => Nat.lt_irrefl _ (hne _ e.symm))).trans (kept (alloc_below W o') h hz)
theorem cells_new (w : World) (vs : List Value) (t : TypeId) (b : Nat) (hb : b = w.heap.size) : ∀ (j : Nat) (u : Value), vs[j]? = some u → (w.alloc (.cells vs.toArray t)).cell? ((⟨b, 0, none⟩ : Addr).add j) = some u := by
  subst hb
  intro j u h
  rw [Addr.add_lit, Nat.zero_add]
  have hn := World.alloc_heap_new w (.cells vs.toArray t)
  simp only [World.cell?]
  rw [hn]
  simpa using h
theorem hop_info : (Try.prog.info? 33).map (fun i => (i.zero, i.size, i.bytes)) = some (some (.agg #[.int .i64 0, .int .i64 0, .int .i64 0, .slice none 0 0, .int .i64 0, .int .i64 0, .int .u8 0]), 7, 72) := by kernel_rfl
open Classical in
set_option maxRecDepth 20000 in
set_option maxHeartbeats 3200000 in
theorem extends_good (P Q G H : Int) (sa : Option Addr) (sc : Nat) (S : List Int) (ha : Option Addr) (hcap : Nat) (R : Nat → Option Addr × Nat) (L : List Hp) (w : World) (hr : RowL w sa sc S) (hL : RowHop w ha R L) (hg : Good P Q G H S L.length) :
    Calls Try.prog 3 #[.agg #[.int .i64 P, .int .i64 Q, .int .i64 G, .int .i64 H], .slice sa S.length sc, .slice ha L.length hcap] w fun e w' => e = .returned (.bool true) ∧ Below w.heap.size w w' := by
  obtain ⟨i0, hi, hz0, hz1, hz2⟩ := info_parts hopped_info
  have hu : Try.prog.underlying 26 = some (.slice 35) := by kernel_rfl
  obtain ⟨j0, ji, jz0, jz1, jz2⟩ := info_parts hop_info
  have ju : Try.prog.underlying 25 = some (.slice 33) := by kernel_rfl
  have HP1 := Lib.hid fun w' (hb : Below w.heap.size w w') => play_any P Q G H sa sc S ha hcap R L w' (hr.below hb (Nat.le_refl _)) (hL.below hb (Nat.le_refl _))
  have HM := Lib.hid fun w' (hb : Below w.heap.size w w') => top_may P Q G H sa sc S ha L.length hcap w' (hr.below hb (Nat.le_refl _)) (by have := hg.2.1; omega)
  rw [decide_eq_true hg] at HM
  have HG := Lib.hid hg
  have h3 := hg.2.1
  have h100 := hg.2.2.1
  have HRow := Lib.hid hr
  have HLr := Lib.hid hL
  obtain ⟨sn, hsn⟩ : ∃ n, S.length = n := ⟨_, rfl⟩
  obtain ⟨N, hN⟩ : ∃ n, L.length = n := ⟨_, rfl⟩
  have HN := Lib.hid hN
  have HSn := Lib.hid hsn
  rw [hN] at HP1 HM h100 ⊢
  rw [hsn] at HP1 HM h3 ⊢
  have nn : ((N : Int) == (N : Int)) = true := by simp
  have nn2 : ((N : Int) != (N : Int)) = false := by simp
  clear hg hr hL hsn hN
  go_enter Try.func3, Try.ntmps3
  go_wp2_with fail
  refine (HP1.out _ (alloc_below _ _)).mono ?_
  rintro e w1 ⟨lv, c, rfl, hb1, hgo, hno⟩
  obtain ⟨rfl, us, ho⟩ := hgo (by have := HG.out; rw [HN.out] at this; exact this)
  obtain ⟨va, vc, rfl, hvc, hvm, hview⟩ := ho.view
  have hrl : (runF P Q G S st0 L).1.length = N := by rw [runF_len]; exact HN.out
  rw [hrl] at hvc ⊢
  have hb := below_two (alloc_below w _) hb1
  have q0 := kept hb1 (b := w.heap.size) (o := 0) (v := .int .i64 P) (by simp [go_sem]) (by simp)
  have q1 := kept hb1 (b := w.heap.size) (o := 1) (v := .int .i64 Q) (by simp [go_sem]) (by simp)
  have q2 := kept hb1 (b := w.heap.size) (o := 2) (v := .int .i64 G) (by simp [go_sem]) (by simp)
  have q3 := kept hb1 (b := w.heap.size) (o := 3) (v := .int .i64 H) (by simp [go_sem]) (by simp)
  have zg : w.heap.size < w1.heap.size := World.block_lt_of_cell? _ _ q0
  clear hb1 hgo hno hrl ho hvm
  go_wp2_with fail
  refine (HM.out _ hb).mono ?_
  rintro e w2 ⟨rfl, hb2⟩
  have hb3 := below_two hb hb2
  have HV := Lib.hid (hview.below hb2)
  replace q0 := kept hb2 q0 zg
  replace q1 := kept hb2 q1 zg
  replace q2 := kept hb2 q2 zg
  replace q3 := kept hb2 q3 zg
  have zg2 : w.heap.size < w2.heap.size := World.block_lt_of_cell? _ _ q0
  have HB := Lib.hid hb3
  clear hb hb2 zg hb3 hview
  go_wp2
  go_loopw [9, 10, 11, 41] (fun av tv rel i wr => ∃ (I : Nat) (l : List (Hp × Option Addr × Nat)) (vs : List Value), i = .int .i64 (I : Int) ∧ I ≤ N ∧ l.map (·.1) = (L.take I).filter isE ∧ rel = .int .i64 ((runF P Q G S st0 (L.take I)).2.ks.length : Int) ∧ ExI w2 l av (toldF (L.take I) (runF P Q G S st0 (L.take I)).1) vs tv wr) (fun _ _ _ i _ => N - (intOf i).toNat)
  case atStart => exact ⟨0, [], [], rfl, Nat.zero_le _, by simp, by simp [runF, st0], ExI.start _⟩
  case round =>
    obtain ⟨I, l, vs, rfl, hIN, hal, rfl, hE⟩ := hrel
    by_cases hlt : I < N
    · obtain ⟨x, hx⟩ : ∃ x, L[I]? = some x := ⟨_, List.getElem?_eq_getElem (by rw [HN.out]; exact hlt)⟩
      have hok := runF_ok (P := P) (Q := Q) (G := G) (L.take I) st0 0 (st0_ok S)
      have htl : (L.take I).length = I := by rw [List.length_take, HN.out]; omega
      have hTk := runF_take (P := P) (Q := Q) (G := G) (S := S) st0 hx
      have hFr := runF_front P Q G S L st0 (I + 1)
      obtain ⟨st, hst⟩ : ∃ s, (runF P Q G S st0 (L.take I)).2 = s := ⟨_, rfl⟩
      obtain ⟨Rr, hRr⟩ : ∃ s, (runF P Q G S st0 (L.take I)).1 = s := ⟨_, rfl⟩
      have hRl : Rr.length = I := by rw [← hRr, runF_len]; exact htl
      rw [hst, hRr] at hTk
      rw [hRr] at hE
      rw [hst, htl, Nat.zero_add] at hok
      rw [hst]
      have hRI : (runF P Q G S st0 L).1[I]? = some (hopF P Q G S st x).2 := by
        have h1 : ((runF P Q G S st0 L).1.take (I + 1))[I]? = some (hopF P Q G S st x).2 := by
          rw [← hFr, hTk]
          show (Rr ++ [(hopF P Q G S st x).2])[I]? = _
          rw [List.getElem?_append_right (by omega), hRl, Nat.sub_self]
          rfl
        rw [List.getElem?_take] at h1
        split at h1
        · exact h1
        · cases h1
      have hTs := toldF_snoc (L.take I) Rr x (hopF P Q G S st x).2 (by rw [htl, hRl])
      have hLt : L.take (I + 1) = L.take I ++ [x] := by rw [List.take_add_one, hx]; rfl
      obtain ⟨b, o, rfl, hcs⟩ := ((HLr.out.below HB.out (Nat.le_refl _)).below hE.bel (Nat.le_refl _)).shape (by rw [HN.out]; omega)
      obtain ⟨k0, k1, k2, k3, k4, k5, k6⟩ := hcs I x hx
      have hrow := (HLr.out.row I x hx).below HB.out (Nat.le_refl _)
      have hu8 := HLr.out.u8 x (List.mem_of_getElem? hx)
      obtain ⟨rr, hrr⟩ : ∃ r, R I = r := ⟨_, rfl⟩
      obtain ⟨ra, rc⟩ := rr
      rw [hrr] at k3 hrow
      simp only at k3 hrow
      obtain ⟨lg, lu, lc, rfl, m0, m1, lrow⟩ := HV.out I _ hRI
      have n0 := m0
      have n1 := m1
      replace m0 := kept hE.bel m0 (World.block_lt_of_cell? _ _ m0)
      replace m1 := kept hE.bel m1 (World.block_lt_of_cell? _ _ m1)
      have kq := kept hE.bel q1 zg2
      obtain ⟨BL, eL⟩ : ∃ q, x.body.length = q := ⟨_, rfl⟩
      obtain ⟨kd, e0⟩ : ∃ q, x.kind = q := ⟨_, rfl⟩
      obtain ⟨x1, e1⟩ : ∃ q, x.k = q := ⟨_, rfl⟩
      obtain ⟨x2, e2⟩ : ∃ q, x.l = q := ⟨_, rfl⟩
      obtain ⟨x4, e4⟩ : ∃ q, x.link = q := ⟨_, rfl⟩
      obtain ⟨x5, e5⟩ : ∃ q, x.at' = q := ⟨_, rfl⟩
      obtain ⟨x6, e6⟩ : ∃ q, x.turn = q := ⟨_, rfl⟩
      rw [e0] at k0
      rw [e1] at k1
      rw [e2] at k2
      rw [eL] at k3
      rw [e4] at k4
      rw [e5] at k5
      rw [e6] at k6
      have hlI : (I : Int) < (N : Int) := by omega
      by_cases hk1 : kd = 1
      · obtain rfl : kd = 1 := hk1
        have hyE : isE x = true := by simp [isE, e0]
        obtain ⟨y1, y2, y3⟩ := ext_says (P := P) (Q := Q) (G := G) (S := S) (st := st) hyE hok.len
        obtain ⟨ff, hff⟩ : ∃ f, hopF P Q G S st x = f := ⟨_, rfl⟩
        obtain ⟨st', c, bd⟩ := ff
        rw [hff] at hTk hTs m0 m1 n0 n1 lrow y1 y2 y3
        simp only at m0 m1 n0 n1 lrow y1 y2 y3
        rw [e1, e2, HSn.out] at y1
        obtain ⟨K, hK⟩ : ∃ k, st.ks.length = k := ⟨_, rfl⟩
        rw [hK] at y1 y2 y3 ⊢
        obtain ⟨M, hM⟩ : ∃ k, bd.length = k := ⟨_, rfl⟩
        have hE2 := hE.below (alloc_below wr (.cells #[.int .i64 1, .int .i64 x1, .int .i64 x2, .slice ra BL rc, .int .i64 x4, .int .i64 x5, .int .u8 (x6 : Int)] 33))
        have HA : Hid ((l ++ [(x, ra, rc)]).map (·.1) = (L.take (I + 1)).filter isE) := Lib.hid (by rw [hLt, List.filter_append, List.map_append, hal]; simp [hyE])
        have HT : Hid (toldF (L.take (I + 1)) (runF P Q G S st0 (L.take (I + 1))).1 = toldF (L.take I) Rr ++ [(c, bd)]) := Lib.hid (by rw [hTk, hLt]; show toldF _ (Rr ++ [_]) = _; rw [hTs, hyE]; rfl)
        have HK : Hid ((runF P Q G S st0 (L.take (I + 1))).2.ks.length = st'.ks.length) := Lib.hid (by rw [hTk])
        have hlI2 : l.length ≤ I := by
          have h1 : (l.map (·.1)).length ≤ (L.take I).length := by rw [hal]; exact List.length_filter_le _ _
          rw [List.length_map, htl] at h1
          exact h1
        have htI : (toldF (L.take I) Rr).length ≤ I := by
          have := toldF_len (L.take I) Rr
          rw [htl] at this
          exact this
        obtain ⟨TL, hTL⟩ : ∃ t, toldF (L.take I) Rr = t := ⟨_, rfl⟩
        rw [hTL] at hE HT hE2 htI
        have ao5 := hE2.ao
        have HX : Hid (RowB w2 ra rc x.body ∧ x.turn < 256 ∧ ∀ y ∈ x.body, y < 256) := Lib.hid ⟨hrow, hu8⟩
        have HLow : Hid (∃ ua uc, (Value.slice lu M lc) = .slice ua bd.length uc ∧ RowB w2 ua uc bd) := Lib.hid ⟨lu, lc, by rw [hM], lrow⟩
        rw [hM] at m1 n1
        have aLt := Lib.hid fun k hk => (hE.ao.lt k hk).2
        have tLt := Lib.hid fun k hk => (hE.tow.lt k hk).2
        have N0 := Lib.hid n0
        have N1 := Lib.hid n1
        have B1 : Hid ((wr.alloc (.cells #[.int .i64 1, .int .i64 x1, .int .i64 x2, .slice ra BL rc, .int .i64 x4, .int .i64 x5, .int .u8 (x6 : Int)] 33)).cell? ⟨wr.heap.size, 1, none⟩ = some (.int .i64 x1)) := Lib.hid (by simp [go_sem])
        have B2 : Hid ((wr.alloc (.cells #[.int .i64 1, .int .i64 x1, .int .i64 x2, .slice ra BL rc, .int .i64 x4, .int .i64 x5, .int .u8 (x6 : Int)] 33)).cell? ⟨wr.heap.size, 2, none⟩ = some (.int .i64 x2)) := Lib.hid (by simp [go_sem])
        have HV7 : Hid (([.int .i64 x.kind, .int .i64 x.k, .int .i64 x.l, .slice ra x.body.length rc, .int .i64 x.link, .int .i64 x.at', .int .u8 (x.turn : Int)] : List Value) = [.int .i64 1, .int .i64 x1, .int .i64 x2, .slice ra BL rc, .int .i64 x4, .int .i64 x5, .int .u8 (x6 : Int)]) := Lib.hid (by rw [e0, e1, e2, e4, e5, e6, eL])
        have HE2 := Lib.hid hE2
        have Hy1 := Lib.hid y1
        have Hy2 := Lib.hid y2
        have Hy3 := Lib.hid y3
        have HMd := Lib.hid hM
        have zc := hE.bel.size
        clear hE hE2 hal hTk hFr hRI hTs hLt hcs hrow hu8 hrr lrow hst hRr hok e0 e1 e2 e4 e5 e6 eL hyE htl hRl hx y1 y2 y3 hff hK hM hTL n0 n1
        by_cases g1 : x1 < 0
        · have f1 : decide ((0 : Int) ≤ x1) = false := decide_eq_false (by omega)
          have r0 : ¬ c = 0 := fun e => by have := Hy1.out.1 e; omega
          have r1 : (c == (0 : Int)) = false := by simpa using r0
          go_wp2_with (first
            | (at_builtin; refine wpList_append_own _ rfl _ _ 25 rfl w2.heap.size 33 j0 (.agg #[.int .i64 0, .int .i64 0, .int .i64 0, .slice none 0 0, .int .i64 0, .int .i64 0, .int .u8 0]) 7 72 ju ji jz0 jz1 jz2 rfl (by decide) _ _ _ rfl (ao5.alloc _) ⟨wr.heap.size + 1, 0, none⟩ 1 1 [.int .i64 1, .int .i64 x1, .int .i64 x2, .slice ra BL rc, .int .i64 x4, .int .i64 x5, .int .u8 (x6 : Int)] rfl rfl (cells_new _ _ _ _ (by simp)) (by simp [Value.oneCell']) (by unfold maxLen; omega) (by omega) (by simp; omega) ?_; intro v' w5 hown5 hg5 hnil5; have c1 := box_keep hg5 B1.out aLt.out; have c2 := box_keep hg5 B2.out aLt.out; rw [← HV7.out] at hown5; have hE5 := ExI.alone (x := (x, ra, rc)) (HE2.out.below (alloc_below _ _)) hg5 hown5 HX.out; have m05 := kept hE5.bel N0.out (World.block_lt_of_cell? _ _ N0.out); have m15 := kept hE5.bel N1.out (World.block_lt_of_cell? _ _ N1.out); have z5 := hE5.bel.size; have t5 := hE5.tow; have HE5 := Lib.hid hE5; clear hE5 hown5 hg5 hnil5)
            | (at_builtin; refine wpList_append_own _ rfl _ _ 26 rfl w2.heap.size 35 i0 (.agg #[.int .i64 0, .slice none 0 0]) 2 32 hu hi hz0 hz1 hz2 rfl (by decide) _ _ _ rfl (t5.alloc _) ⟨w5.heap.size, 0, none⟩ 1 1 [.int .i64 c, .slice lu M lc] rfl rfl (cells_new _ _ _ _ rfl) (by simp [Value.oneCell']) (by unfold maxLen; omega) (by omega) (by simp; omega) ?_; intro v2 w6 hown6 hg6 hnil6; have d1 := box_keep hg6 c1 tLt.out; have d2 := box_keep hg6 c2 tLt.out; have hE6 := ExI.told (r := (c, bd)) (HE5.out.below (alloc_below _ _)) hg6 hown6 HLow.out; have m06 := kept hE6.bel N0.out (World.block_lt_of_cell? _ _ N0.out); have m16 := kept hE6.bel N1.out (World.block_lt_of_cell? _ _ N1.out); have kq6 := kept hE6.bel q1 zg2; have HE6 := Lib.hid hE6; clear hE6 hown6 hg6 hnil6))
          go_round
          case rel => exact ⟨I + 1, l ++ [(x, ra, rc)], vs ++ [.slice lu M lc], by go_num, by omega, HA.out, by rw [HK.out, Hy3.out r0], by rw [HT.out]; exact HE6.out⟩
          case measure => simp [intOf]; omega
        have f1 : decide ((0 : Int) ≤ x1) = true := decide_eq_true (by omega)
        by_cases g2 : Q ≤ x1
        · have f2 : decide (x1 < Q) = false := decide_eq_false (by omega)
          have r0 : ¬ c = 0 := fun e => by have := Hy1.out.1 e; omega
          have r1 : (c == (0 : Int)) = false := by simpa using r0
          go_wp2_with (first
            | (at_builtin; refine wpList_append_own _ rfl _ _ 25 rfl w2.heap.size 33 j0 (.agg #[.int .i64 0, .int .i64 0, .int .i64 0, .slice none 0 0, .int .i64 0, .int .i64 0, .int .u8 0]) 7 72 ju ji jz0 jz1 jz2 rfl (by decide) _ _ _ rfl (ao5.alloc _) ⟨wr.heap.size + 1, 0, none⟩ 1 1 [.int .i64 1, .int .i64 x1, .int .i64 x2, .slice ra BL rc, .int .i64 x4, .int .i64 x5, .int .u8 (x6 : Int)] rfl rfl (cells_new _ _ _ _ (by simp)) (by simp [Value.oneCell']) (by unfold maxLen; omega) (by omega) (by simp; omega) ?_; intro v' w5 hown5 hg5 hnil5; have c1 := box_keep hg5 B1.out aLt.out; have c2 := box_keep hg5 B2.out aLt.out; rw [← HV7.out] at hown5; have hE5 := ExI.alone (x := (x, ra, rc)) (HE2.out.below (alloc_below _ _)) hg5 hown5 HX.out; have m05 := kept hE5.bel N0.out (World.block_lt_of_cell? _ _ N0.out); have m15 := kept hE5.bel N1.out (World.block_lt_of_cell? _ _ N1.out); have z5 := hE5.bel.size; have t5 := hE5.tow; have HE5 := Lib.hid hE5; clear hE5 hown5 hg5 hnil5)
            | (at_builtin; refine wpList_append_own _ rfl _ _ 26 rfl w2.heap.size 35 i0 (.agg #[.int .i64 0, .slice none 0 0]) 2 32 hu hi hz0 hz1 hz2 rfl (by decide) _ _ _ rfl (t5.alloc _) ⟨w5.heap.size, 0, none⟩ 1 1 [.int .i64 c, .slice lu M lc] rfl rfl (cells_new _ _ _ _ rfl) (by simp [Value.oneCell']) (by unfold maxLen; omega) (by omega) (by simp; omega) ?_; intro v2 w6 hown6 hg6 hnil6; have d1 := box_keep hg6 c1 tLt.out; have d2 := box_keep hg6 c2 tLt.out; have hE6 := ExI.told (r := (c, bd)) (HE5.out.below (alloc_below _ _)) hg6 hown6 HLow.out; have m06 := kept hE6.bel N0.out (World.block_lt_of_cell? _ _ N0.out); have m16 := kept hE6.bel N1.out (World.block_lt_of_cell? _ _ N1.out); have kq6 := kept hE6.bel q1 zg2; have HE6 := Lib.hid hE6; clear hE6 hown6 hg6 hnil6))
          go_round
          case rel => exact ⟨I + 1, l ++ [(x, ra, rc)], vs ++ [.slice lu M lc], by go_num, by omega, HA.out, by rw [HK.out, Hy3.out r0], by rw [HT.out]; exact HE6.out⟩
          case measure => simp [intOf]; omega
        have f2 : decide (x1 < Q) = true := decide_eq_true (by omega)
        by_cases g3 : x2 < 0
        · have f3 : decide ((0 : Int) ≤ x2) = false := decide_eq_false (by omega)
          have r0 : ¬ c = 0 := fun e => by have := Hy1.out.1 e; omega
          have r1 : (c == (0 : Int)) = false := by simpa using r0
          go_wp2_with (first
            | (at_builtin; refine wpList_append_own _ rfl _ _ 25 rfl w2.heap.size 33 j0 (.agg #[.int .i64 0, .int .i64 0, .int .i64 0, .slice none 0 0, .int .i64 0, .int .i64 0, .int .u8 0]) 7 72 ju ji jz0 jz1 jz2 rfl (by decide) _ _ _ rfl (ao5.alloc _) ⟨wr.heap.size + 1, 0, none⟩ 1 1 [.int .i64 1, .int .i64 x1, .int .i64 x2, .slice ra BL rc, .int .i64 x4, .int .i64 x5, .int .u8 (x6 : Int)] rfl rfl (cells_new _ _ _ _ (by simp)) (by simp [Value.oneCell']) (by unfold maxLen; omega) (by omega) (by simp; omega) ?_; intro v' w5 hown5 hg5 hnil5; have c1 := box_keep hg5 B1.out aLt.out; have c2 := box_keep hg5 B2.out aLt.out; rw [← HV7.out] at hown5; have hE5 := ExI.alone (x := (x, ra, rc)) (HE2.out.below (alloc_below _ _)) hg5 hown5 HX.out; have m05 := kept hE5.bel N0.out (World.block_lt_of_cell? _ _ N0.out); have m15 := kept hE5.bel N1.out (World.block_lt_of_cell? _ _ N1.out); have z5 := hE5.bel.size; have t5 := hE5.tow; have HE5 := Lib.hid hE5; clear hE5 hown5 hg5 hnil5)
            | (at_builtin; refine wpList_append_own _ rfl _ _ 26 rfl w2.heap.size 35 i0 (.agg #[.int .i64 0, .slice none 0 0]) 2 32 hu hi hz0 hz1 hz2 rfl (by decide) _ _ _ rfl (t5.alloc _) ⟨w5.heap.size, 0, none⟩ 1 1 [.int .i64 c, .slice lu M lc] rfl rfl (cells_new _ _ _ _ rfl) (by simp [Value.oneCell']) (by unfold maxLen; omega) (by omega) (by simp; omega) ?_; intro v2 w6 hown6 hg6 hnil6; have d1 := box_keep hg6 c1 tLt.out; have d2 := box_keep hg6 c2 tLt.out; have hE6 := ExI.told (r := (c, bd)) (HE5.out.below (alloc_below _ _)) hg6 hown6 HLow.out; have m06 := kept hE6.bel N0.out (World.block_lt_of_cell? _ _ N0.out); have m16 := kept hE6.bel N1.out (World.block_lt_of_cell? _ _ N1.out); have kq6 := kept hE6.bel q1 zg2; have HE6 := Lib.hid hE6; clear hE6 hown6 hg6 hnil6))
          go_round
          case rel => exact ⟨I + 1, l ++ [(x, ra, rc)], vs ++ [.slice lu M lc], by go_num, by omega, HA.out, by rw [HK.out, Hy3.out r0], by rw [HT.out]; exact HE6.out⟩
          case measure => simp [intOf]; omega
        have f3 : decide ((0 : Int) ≤ x2) = true := decide_eq_true (by omega)
        by_cases g4 : Q ≤ x2
        · have f4 : decide (x2 < Q) = false := decide_eq_false (by omega)
          have r0 : ¬ c = 0 := fun e => by have := Hy1.out.1 e; omega
          have r1 : (c == (0 : Int)) = false := by simpa using r0
          go_wp2_with (first
            | (at_builtin; refine wpList_append_own _ rfl _ _ 25 rfl w2.heap.size 33 j0 (.agg #[.int .i64 0, .int .i64 0, .int .i64 0, .slice none 0 0, .int .i64 0, .int .i64 0, .int .u8 0]) 7 72 ju ji jz0 jz1 jz2 rfl (by decide) _ _ _ rfl (ao5.alloc _) ⟨wr.heap.size + 1, 0, none⟩ 1 1 [.int .i64 1, .int .i64 x1, .int .i64 x2, .slice ra BL rc, .int .i64 x4, .int .i64 x5, .int .u8 (x6 : Int)] rfl rfl (cells_new _ _ _ _ (by simp)) (by simp [Value.oneCell']) (by unfold maxLen; omega) (by omega) (by simp; omega) ?_; intro v' w5 hown5 hg5 hnil5; have c1 := box_keep hg5 B1.out aLt.out; have c2 := box_keep hg5 B2.out aLt.out; rw [← HV7.out] at hown5; have hE5 := ExI.alone (x := (x, ra, rc)) (HE2.out.below (alloc_below _ _)) hg5 hown5 HX.out; have m05 := kept hE5.bel N0.out (World.block_lt_of_cell? _ _ N0.out); have m15 := kept hE5.bel N1.out (World.block_lt_of_cell? _ _ N1.out); have z5 := hE5.bel.size; have t5 := hE5.tow; have HE5 := Lib.hid hE5; clear hE5 hown5 hg5 hnil5)
            | (at_builtin; refine wpList_append_own _ rfl _ _ 26 rfl w2.heap.size 35 i0 (.agg #[.int .i64 0, .slice none 0 0]) 2 32 hu hi hz0 hz1 hz2 rfl (by decide) _ _ _ rfl (t5.alloc _) ⟨w5.heap.size, 0, none⟩ 1 1 [.int .i64 c, .slice lu M lc] rfl rfl (cells_new _ _ _ _ rfl) (by simp [Value.oneCell']) (by unfold maxLen; omega) (by omega) (by simp; omega) ?_; intro v2 w6 hown6 hg6 hnil6; have d1 := box_keep hg6 c1 tLt.out; have d2 := box_keep hg6 c2 tLt.out; have hE6 := ExI.told (r := (c, bd)) (HE5.out.below (alloc_below _ _)) hg6 hown6 HLow.out; have m06 := kept hE6.bel N0.out (World.block_lt_of_cell? _ _ N0.out); have m16 := kept hE6.bel N1.out (World.block_lt_of_cell? _ _ N1.out); have kq6 := kept hE6.bel q1 zg2; have HE6 := Lib.hid hE6; clear hE6 hown6 hg6 hnil6))
          go_round
          case rel => exact ⟨I + 1, l ++ [(x, ra, rc)], vs ++ [.slice lu M lc], by go_num, by omega, HA.out, by rw [HK.out, Hy3.out r0], by rw [HT.out]; exact HE6.out⟩
          case measure => simp [intOf]; omega
        have f4 : decide (x2 < Q) = true := decide_eq_true (by omega)
        by_cases g5 : K < sn
        · have f5 : decide ((K : Int) < (sn : Int)) = true := decide_eq_true (by omega)
          obtain rfl : c = 0 := Hy1.out.2 (by omega)
          have r2 : ((M : Int) != (2 : Int)) = false := by have := (Hy2.out rfl).1; rw [HMd.out] at this; subst this; rfl
          go_wp2_with (first
            | (at_builtin; refine wpList_append_own _ rfl _ _ 25 rfl w2.heap.size 33 j0 (.agg #[.int .i64 0, .int .i64 0, .int .i64 0, .slice none 0 0, .int .i64 0, .int .i64 0, .int .u8 0]) 7 72 ju ji jz0 jz1 jz2 rfl (by decide) _ _ _ rfl (ao5.alloc _) ⟨wr.heap.size + 1, 0, none⟩ 1 1 [.int .i64 1, .int .i64 x1, .int .i64 x2, .slice ra BL rc, .int .i64 x4, .int .i64 x5, .int .u8 (x6 : Int)] rfl rfl (cells_new _ _ _ _ (by simp)) (by simp [Value.oneCell']) (by unfold maxLen; omega) (by omega) (by simp; omega) ?_; intro v' w5 hown5 hg5 hnil5; have c1 := box_keep hg5 B1.out aLt.out; have c2 := box_keep hg5 B2.out aLt.out; rw [← HV7.out] at hown5; have hE5 := ExI.alone (x := (x, ra, rc)) (HE2.out.below (alloc_below _ _)) hg5 hown5 HX.out; have m05 := kept hE5.bel N0.out (World.block_lt_of_cell? _ _ N0.out); have m15 := kept hE5.bel N1.out (World.block_lt_of_cell? _ _ N1.out); have z5 := hE5.bel.size; have t5 := hE5.tow; have HE5 := Lib.hid hE5; clear hE5 hown5 hg5 hnil5)
            | (at_builtin; refine wpList_append_own _ rfl _ _ 26 rfl w2.heap.size 35 i0 (.agg #[.int .i64 0, .slice none 0 0]) 2 32 hu hi hz0 hz1 hz2 rfl (by decide) _ _ _ rfl (t5.alloc _) ⟨w5.heap.size, 0, none⟩ 1 1 [.int .i64 0, .slice lu M lc] rfl rfl (cells_new _ _ _ _ rfl) (by simp [Value.oneCell']) (by unfold maxLen; omega) (by omega) (by simp; omega) ?_; intro v2 w6 hown6 hg6 hnil6; have d1 := box_keep hg6 c1 tLt.out; have d2 := box_keep hg6 c2 tLt.out; have hE6 := ExI.told (r := (0, bd)) (HE5.out.below (alloc_below _ _)) hg6 hown6 HLow.out; have m06 := kept hE6.bel N0.out (World.block_lt_of_cell? _ _ N0.out); have m16 := kept hE6.bel N1.out (World.block_lt_of_cell? _ _ N1.out); have kq6 := kept hE6.bel q1 zg2; have HE6 := Lib.hid hE6; clear hE6 hown6 hg6 hnil6))
          go_round
          case rel => exact ⟨I + 1, l ++ [(x, ra, rc)], vs ++ [.slice lu M lc], by go_num, by omega, HA.out, by rw [HK.out, (Hy2.out rfl).2]; go_num, by rw [HT.out]; exact HE6.out⟩
          case measure => simp [intOf]; omega
        · have f5 : decide ((K : Int) < (sn : Int)) = false := decide_eq_false (by omega)
          have r0 : ¬ c = 0 := fun e => by have := Hy1.out.1 e; omega
          have r1 : (c == (0 : Int)) = false := by simpa using r0
          go_wp2_with (first
            | (at_builtin; refine wpList_append_own _ rfl _ _ 25 rfl w2.heap.size 33 j0 (.agg #[.int .i64 0, .int .i64 0, .int .i64 0, .slice none 0 0, .int .i64 0, .int .i64 0, .int .u8 0]) 7 72 ju ji jz0 jz1 jz2 rfl (by decide) _ _ _ rfl (ao5.alloc _) ⟨wr.heap.size + 1, 0, none⟩ 1 1 [.int .i64 1, .int .i64 x1, .int .i64 x2, .slice ra BL rc, .int .i64 x4, .int .i64 x5, .int .u8 (x6 : Int)] rfl rfl (cells_new _ _ _ _ (by simp)) (by simp [Value.oneCell']) (by unfold maxLen; omega) (by omega) (by simp; omega) ?_; intro v' w5 hown5 hg5 hnil5; have c1 := box_keep hg5 B1.out aLt.out; have c2 := box_keep hg5 B2.out aLt.out; rw [← HV7.out] at hown5; have hE5 := ExI.alone (x := (x, ra, rc)) (HE2.out.below (alloc_below _ _)) hg5 hown5 HX.out; have m05 := kept hE5.bel N0.out (World.block_lt_of_cell? _ _ N0.out); have m15 := kept hE5.bel N1.out (World.block_lt_of_cell? _ _ N1.out); have z5 := hE5.bel.size; have t5 := hE5.tow; have HE5 := Lib.hid hE5; clear hE5 hown5 hg5 hnil5)
            | (at_builtin; refine wpList_append_own _ rfl _ _ 26 rfl w2.heap.size 35 i0 (.agg #[.int .i64 0, .slice none 0 0]) 2 32 hu hi hz0 hz1 hz2 rfl (by decide) _ _ _ rfl (t5.alloc _) ⟨w5.heap.size, 0, none⟩ 1 1 [.int .i64 c, .slice lu M lc] rfl rfl (cells_new _ _ _ _ rfl) (by simp [Value.oneCell']) (by unfold maxLen; omega) (by omega) (by simp; omega) ?_; intro v2 w6 hown6 hg6 hnil6; have d1 := box_keep hg6 c1 tLt.out; have d2 := box_keep hg6 c2 tLt.out; have hE6 := ExI.told (r := (c, bd)) (HE5.out.below (alloc_below _ _)) hg6 hown6 HLow.out; have m06 := kept hE6.bel N0.out (World.block_lt_of_cell? _ _ N0.out); have m16 := kept hE6.bel N1.out (World.block_lt_of_cell? _ _ N1.out); have kq6 := kept hE6.bel q1 zg2; have HE6 := Lib.hid hE6; clear hE6 hown6 hg6 hnil6))
          go_round
          case rel => exact ⟨I + 1, l ++ [(x, ra, rc)], vs ++ [.slice lu M lc], by go_num, by omega, HA.out, by rw [HK.out, Hy3.out r0], by rw [HT.out]; exact HE6.out⟩
          case measure => simp [intOf]; omega
      · have q4 : (kd == (1 : Int)) = false := by simpa using hk1
        have q5 : (kd != (1 : Int)) = true := by simpa using hk1
        have hnE : isE x = false := by simp [isE, e0, hk1]
        have hks := hopF_ks (P := P) (Q := Q) (G := G) (S := S) (st := st) hnE
        have HE2 := Lib.hid (hE.below (alloc_below wr (.cells #[.int .i64 kd, .int .i64 x1, .int .i64 x2, .slice ra BL rc, .int .i64 x4, .int .i64 x5, .int .u8 (x6 : Int)] 33)))
        have HA : Hid (l.map (·.1) = (L.take (I + 1)).filter isE) := Lib.hid (by rw [hLt, List.filter_append, hal]; simp [hnE])
        have HT : Hid (toldF (L.take (I + 1)) (runF P Q G S st0 (L.take (I + 1))).1 = toldF (L.take I) Rr) := Lib.hid (by rw [hTk, hLt]; show toldF _ (Rr ++ [_]) = _; rw [hTs, hnE]; simp)
        have HK : Hid ((runF P Q G S st0 (L.take (I + 1))).2.ks.length = st.ks.length) := Lib.hid (by rw [hTk]; show (hopF P Q G S st x).1.ks.length = _; rw [hks])
        clear hE hal hTk hFr hRI hTs hLt hcs hrow hu8 hrr lrow hst hRr hok e0 e1 e2 e4 e5 e6 eL hnE hks hk1 htl hRl hx
        go_wp2
        go_round
        case rel => exact ⟨I + 1, l, vs, by go_num, by omega, HA.out, by rw [HK.out], by rw [HT.out]; exact HE2.out⟩
        case measure => simp [intOf]; omega
    · obtain rfl : I = N := by omega
      have ht : L.take I = L := List.take_of_length_le (by rw [HN.out]; exact Nat.le_refl _)
      rw [ht] at hal hE ⊢
      obtain ⟨aa, ac, rfl, Rr, hRH⟩ := hE.rowHop
      obtain ⟨ta, tc, rfl, htv⟩ := hE.view
      have hll : (l.map (·.1)).length = l.length := by simp
      have hl1 : l.length ≤ I := by
        rw [← hll, hal]
        have := List.length_filter_le isE L
        rw [HN.out] at this
        exact this
      have hrun : (runF P Q G S st0 (l.map (·.1))).1 = toldF L (runF P Q G S st0 L).1 := by rw [hal]; exact run_alone P Q G S L st0 st0 rfl
      have hbw : Below w.heap.size w wr := HB.out.trans (hE.bel.mono HB.out.size)
      have hpl := play_any P Q G H sa sc S aa ac Rr (l.map (·.1)) wr (HRow.out.below hbw (Nat.le_refl _)) hRH
      rw [hrun, hll] at hpl
      have HGd : Hid (Good P Q G H S l.length) := Lib.hid ⟨HG.out.1, HG.out.2.1, by omega, HG.out.2.2.2⟩
      have HPl := Lib.hid hpl
      have HTv := Lib.hid htv
      obtain ⟨TL, hTL⟩ : ∃ t, toldF L (runF P Q G S st0 L).1 = t := ⟨_, rfl⟩
      have hTlen : TL.length = l.length := by rw [← hTL, ← hrun, runF_len]; exact hll
      have hSm : ∀ r ∈ TL, Small r := fun r hr => by
        rw [← hTL, ← hrun] at hr
        exact small_run (l.map (·.1)) st0 (fun y hy => hRH.u8 y hy) r hr
      rw [hTL] at HPl HTv ⊢
      rw [HSn.out] at HPl
      have HSm := Lib.hid hSm
      have HTl := Lib.hid hTlen
      have HBw := Lib.hid hbw
      have p0 := kept hE.bel q0 zg2
      have p1 := kept hE.bel q1 zg2
      have p2 := kept hE.bel q2 zg2
      have p3 := kept hE.bel q3 zg2
      have hlI : ¬ (I : Int) < (I : Int) := by omega
      clear hal hE hRH htv hll hrun hbw hpl hTL hTlen hSm ht hIN hlt
      go_wp2_with fail
      refine HPl.out.mono ?_
      rintro e w3 ⟨mv, c, rfl, hb3, hgo, hno⟩
      obtain ⟨rfl, ms, hm⟩ := hgo HGd.out
      obtain ⟨ma, mc, rfl, _, _, hmv⟩ := hm.view
      have hh := ref_Hops_same ma ta mc tc TL w3 hmv (HTv.out.below hb3) HSm.out (by rw [HTl.out]; omega)
      have HHp := Lib.hid hh
      have HB4 := Lib.hid (below_two HBw.out hb3)
      clear hb3 hgo hno hm hmv hh
      go_wp2_with ((go_at_call 7; refine HHp.out.mono ?_; rintro e w4 ⟨rfl, hb4⟩))
      go_ret
      exact ⟨rfl, below_two HB4.out hb4⟩
theorem WTopExtends (a0x : Int) (a0y : Int) (a0z : Int) (a0u : Int) (a1 : Option Addr) (len1 cap1 : Nat) (z1 : List Int) (a2 : Option Addr) (len2 cap2 : Nat) (z2 : List Hp) (w : World) (w0x : (Lit.int .i64 a0x).wf = true) (w0y : (Lit.int .i64 a0y).wf = true) (w0z : (Lit.int .i64 a0z).wf = true) (w0u : (Lit.int .i64 a0u).wf = true) (w1 : IsRow .i64 w a1 len1 cap1 z1) (w2 : IsHops w a2 len2 cap2 z2) :
    Calls Try.prog 3 #[.agg #[.int .i64 a0x, .int .i64 a0y, .int .i64 a0z, .int .i64 a0u], .slice a1 len1 cap1, .slice a2 len2 cap2] w fun e w' => e = .returned (.bool true) ∧ Below w.heap.size w w' := by
  obtain ⟨S, hS, hr, hSm⟩ := w1.longs
  obtain ⟨hl, hl2, hl3, R, hL⟩ := w2
  subst hS
  subst hl
  by_cases hg : Good a0x a0y a0z a0u S z2.length
  · exact extends_good a0x a0y a0z a0u a1 cap1 S a2 cap2 R z2 w hr hL hg
  · exact extends_bad a0x a0y a0z a0u a1 cap1 S a2 cap2 R z2 w hr (by have := hSm; simp only [maxLen] at this; omega) hL hg
end Go.Proofs.Ytkodhpjmmiapaaa
