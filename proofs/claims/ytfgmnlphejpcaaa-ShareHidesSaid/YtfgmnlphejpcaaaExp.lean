/- The contract of share.Explain. -/
import Derived.Test.YtfgmnlphejpcaaaExpM
import Derived.Test.YtfgmnlphejpcaaaExpB
import Derived.Test.YtfgmnlphejpcaaaFew
import Derived.Test.YtfgmnlphejpcaaaAppS
import Derived.Test.YtfgmnlphejpcaaaAppZ
import Derived.Test.YtfgmnlphejpcaaaOver
import Derived.Deep.RegionWith
namespace Go.Proofs.Ytfgmnlphejpcaaa
open Go.RowKit Go.Maps
set_option linter.unusedVariables false
set_option linter.unusedSimpArgs false
/-- the points that Explain makes: the first coordinates stay, the second hold the quotient -/
def Expl (p s : Int) (pts qs : List (Int × Int)) (I : Nat) : Prop := qs.length = I ∧ ∀ (j : Nat) (v : Int × Int), j < I → pts[j]? = some v → ∃ i k : Int, qs[j]? = some (v.1, k) ∧ i * v.1 % p = 1 ∧ k = (v.2 - s) % p * i % p
theorem Expl.step {p s : Int} {pts qs : List (Int × Int)} {I : Nat} (h : Expl p s pts qs I) (x y i k : Int) (hv : pts[I]? = some (x, y)) (h1 : i * x % p = 1) (h2 : k = (y - s) % p * i % p) : Expl p s pts (qs ++ [(x, k)]) (I + 1) := by
  refine ⟨by simp [h.1], fun j v hj hvj => ?_⟩
  by_cases e : j = I
  · subst e
    rw [hv] at hvj; cases hvj
    exact ⟨i, k, by rw [List.getElem?_append_right (by rw [h.1]; exact Nat.le_refl _), h.1, Nat.sub_self]; rfl, h1, h2⟩
  · obtain ⟨i', k', q1, q2, q3⟩ := h.2 j v (by omega) hvj
    exact ⟨i', k', by rw [List.getElem?_append_left (by rw [h.1]; omega)]; exact q1, q2, q3⟩
theorem Expl.fst {p s : Int} {pts qs : List (Int × Int)} (h : Expl p s pts qs pts.length) : qs.map (·.1) = pts.map (·.1) := by
  apply List.ext_getElem?
  intro j
  rw [List.getElem?_map, List.getElem?_map]
  by_cases hj : j < pts.length
  · obtain ⟨i, k, q1, _, _⟩ := h.2 j _ hj (List.getElem?_eq_getElem hj)
    rw [q1, List.getElem?_eq_getElem hj]; rfl
  · rw [List.getElem?_eq_none (by rw [h.1]; omega), List.getElem?_eq_none (by omega)]
theorem Expl.wrong {p s : Int} {pts qs : List (Int × Int)} (hw : wrongE p pts = 0) (h : Expl p s pts qs pts.length) : wrongE p qs = 0 := by
  obtain ⟨hpr, hlen, hrg, hnd⟩ := wrong_good hw
  have hp := primeE_zero hpr
  unfold wrongE
  rw [if_neg (by simpa using hpr), if_neg (by rw [h.1]; omega), if_neg, if_pos (by rw [h.fst]; exact hnd)]
  rw [Bool.not_eq_true, List.any_eq_false]
  intro v hv
  obtain ⟨j, hj, rfl⟩ := List.mem_iff_getElem.1 hv
  have hj2 : j < pts.length := by rw [← h.1]; exact hj
  obtain ⟨i, k, q1, _, q3⟩ := h.2 j _ hj2 (List.getElem?_eq_getElem hj2)
  rw [List.getElem?_eq_getElem hj] at q1
  injection q1 with q1
  rw [q1]
  have h1 := hrg _ (List.getElem_mem hj2)
  have h2 := Int.emod_nonneg ((pts[j].2 - s) % p * i) (show p ≠ 0 by omega)
  have h3 := Int.emod_lt_of_pos ((pts[j].2 - s) % p * i) (show 0 < p by omega)
  simp [badP, badB]
  omega
set_option maxRecDepth 100000 in
set_option maxHeartbeats 6400000 in
theorem share_Explain (p s : Int) (a : Option Addr) (c : Nat) (pts : List (Int × Int)) (w : World) {L : Nat} (h : RowP w a c pts) (eL : pts.length = L) (hw : wrongE p pts = 0) (hz : ∀ v ∈ pts, v.1 ≠ 0) (hs : 0 ≤ s ∧ s < p) (hL : L ≤ 12) :
    Calls Try.prog 30 #[.int .i64 p, .slice a L c, .int .i64 s] w fun e w' => (∃ (ar : Option Addr) (cr : Nat) (R : List Int), e = .returned (.tuple #[.slice ar L cr, .int .i64 0]) ∧ RowL w' ar cr R ∧ R.length = L ∧ (∀ x ∈ R, 0 ≤ x ∧ x < p) ∧ ∀ v ∈ pts, valL p (s :: R) v.1 = v.2) ∧ Below w.heap.size w w' := by
  obtain ⟨hpr, hlen, hrg, hnd⟩ := wrong_good hw
  have hp := primeE_zero hpr
  have HJ := Lib.hid (share_Join p a c pts w h eL hw hz)
  have HR := Lib.hid h
  have HL := Lib.hid eL
  have HRg := Lib.hid hrg
  have HZ := Lib.hid hz
  have HW := Lib.hid hw
  have HInv := Lib.hid fun x w (h1 : -2147483648 ≤ x) (h2 : x ≤ 2147483648) => euclid_Inverse x p w h1 h2 (by omega) (by omega)
  have HPB := Lib.hid hp.2.2
  have p1 := hp.1
  have p2 := hp.2.1
  obtain ⟨s1, s2⟩ := hs
  have d1 : decide (12 < (L : Int)) = false := decide_eq_false (by omega)
  obtain ⟨i0, hi, hz0, hz1, hz2⟩ := info_parts point_info
  have hu : Try.prog.underlying 39 = some (.slice 43) := by kernel_rfl
  clear h eL hw hz hpr hlen hrg hnd hp
  go_enter Try.func30, Try.ntmps30
  go_wp2_with fail
  refine HJ.out.mono ?_
  rintro e w1 ⟨⟨A0, rfl, _⟩, hb1⟩
  have HR1 := Lib.hid (HR.out.below hb1 (Nat.le_refl _))
  go_wp2
  go_loopw [38, 10] (fun i v wr => ∃ (I : Nat) (qs : List (Int × Int)), i = .int .i64 I ∧ I ≤ L ∧ Below w1.heap.size w1 wr ∧ wr.ownsRow w1.heap.size 43 2 v I (flatI qs) ∧ Hid (Expl p s pts qs I)) (fun i _ _ => L - (intOf i).toNat)
  case atStart => exact ⟨0, [], rfl, Nat.zero_le _, Below.refl _ _, World.ownsRow_nil _ _ _ _, Lib.hid ⟨rfl, fun j v hj => absurd hj (Nat.not_lt_zero _)⟩⟩
  case round =>
    obtain ⟨I, qs, rfl, hI, hb, hr, HE⟩ := hrel
    by_cases hlt : I < L
    · obtain ⟨v, hv⟩ : ∃ v, pts[I]? = some v := ⟨_, List.getElem?_eq_getElem (by rw [HL.out]; omega)⟩
      obtain ⟨b, o, rfl, hcell⟩ := (HR1.out.below hb (Nat.le_refl _)).shape (by rw [HL.out]; omega)
      obtain ⟨x, y⟩ := v
      obtain ⟨kx, ky⟩ := hcell I (x, y) hv
      simp only at kx ky
      obtain ⟨x1, x2, y1, y2⟩ := HRg.out _ (List.mem_of_getElem? hv)
      have x0 := HZ.out _ (List.mem_of_getElem? hv)
      simp only at x0 x1 x2 y1 y2
      have HV := Lib.hid hv
      have hz := hb.size
      clear hcell hv
      go_wp2_with fail
      refine (HInv.out x _ (by omega) (by omega)).mono ?_
      rintro e w5 ⟨(⟨_, i, rfl, i1, i2, i3⟩ | ⟨hne, _⟩), hb5⟩
      · have cx := kept hb5 (b := wr.heap.size) (o := 0) (v := .int .i64 x) (by simp [go_sem]) (by simp)
        have cy := kept hb5 (b := wr.heap.size) (o := 1) (v := .int .i64 y) (by simp [go_sem]) (by simp)
        have hw5 := below_two (alloc_below wr _) hb5
        have hbt := below_two hb hw5
        have hr5 := own_keep hr hw5
        have z5 := hbt.size
        have HI1 : Hid (i * x % p = 1) := Lib.hid (by
          have := Int.emod_eq_emod_iff_emod_sub_eq_zero.2 (Int.emod_eq_zero_of_dvd i3)
          rw [this, Int.emod_eq_of_lt (by omega) (by omega)])
        have g1 := Int.emod_nonneg (y - s) (show p ≠ 0 by omega)
        have g2 := Int.emod_lt_of_pos (y - s) (show 0 < p by omega)
        have HGe : Hid (∃ g, g = (y - s) % p) := Lib.hid ⟨_, rfl⟩
        obtain ⟨m1, m2⟩ := mul_bd2 p2 g1 g2 i1 i2
        have z1 : ¬ p = 0 := by omega
        have fw : IntKind.i64.wrap (y - s) = y - s := IntWalk.i64_in _ (by omega)
        have f2 : IntKind.i64.wrap ((y - s) % p * i) = (y - s) % p * i := IntWalk.i64_in _ (by omega)
        have f3 : ((y - s) % p * i).tmod p = (y - s) % p * i % p := Int.tmod_eq_emod_of_nonneg (by omega)
        clear hb5 i3 hw5 hb hr HGe
        go_wp2_with fail
        refine wp_region_D (S := (fun W : World => Below w5.heap.size w5 W)) (fun j => j != 15) (by kernel_rfl) (Below.refl _ _).drew (fun hHeld => ?_)
        simp only [List.size_toArray, List.length_cons, List.length_nil, Nat.reduceAdd, Array.replicate_succ, Array.replicate_zero, List.push_toArray, List.append_toArray, List.nil_append, List.cons_append]
        refine WD_free (i := 0) (oi := _) (v := ?_) rfl (by kernel_rfl) (fun _ _ _ h => h) (Or.inl ⟨by rfl, ?_⟩) ?_
        rotate_left
        · (intro W hS; (try dsimp only at hS); clear hS; go_simp; with_reducible rfl)
        try simp only [Act.put, List.getElem_toArray, List.getElem_cons_succ, List.getElem_cons_zero, List.setIfInBounds_toArray, List.set_cons_zero, List.set_cons_succ]
        refine WD_free (i := 1) (oi := _) (v := ?_) rfl (by kernel_rfl) (fun _ _ _ h => h) (Or.inl ⟨by rfl, ?_⟩) ?_
        rotate_left
        · (intro W hS; (try dsimp only at hS); clear hS; go_simp; with_reducible rfl)
        try simp only [Act.put, List.getElem_toArray, List.getElem_cons_succ, List.getElem_cons_zero, List.setIfInBounds_toArray, List.set_cons_zero, List.set_cons_succ]
        refine WD_take (i := 2) (oi := _) (v := ?_) rfl (by kernel_rfl) (fun _ _ _ h => h) (Or.inl ⟨by rfl, ?_⟩) (by assumption) ?_
        rotate_left
        · (intro W hS; (try dsimp only at hS); have kk := (hS.cell (p := ⟨wr.heap.size, 0, none⟩) (World.block_lt_of_cell? w5 _ cx)).trans cx; clear hS; go_simp; with_reducible rfl)
        try simp only [Act.put, List.getElem_toArray, List.getElem_cons_succ, List.getElem_cons_zero, List.setIfInBounds_toArray, List.set_cons_zero, List.set_cons_succ]
        refine WD_free (i := 3) (oi := _) (v := ?_) rfl (by kernel_rfl) (fun _ _ _ h => h) (Or.inl ⟨by rfl, ?_⟩) ?_
        rotate_left
        · (intro W hS; (try dsimp only at hS); clear hS; go_simp; with_reducible rfl)
        try simp only [Act.put, List.getElem_toArray, List.getElem_cons_succ, List.getElem_cons_zero, List.setIfInBounds_toArray, List.set_cons_zero, List.set_cons_succ]
        refine WD_take (i := 4) (oi := _) (v := ?_) rfl (by kernel_rfl) (fun _ _ _ h => h) (Or.inl ⟨by rfl, ?_⟩) (by assumption) ?_
        rotate_left
        · (intro W hS; (try dsimp only at hS); have kk := (hS.cell (p := ⟨wr.heap.size, 1, none⟩) (World.block_lt_of_cell? w5 _ cy)).trans cy; clear hS; go_simp; with_reducible rfl)
        try simp only [Act.put, List.getElem_toArray, List.getElem_cons_succ, List.getElem_cons_zero, List.setIfInBounds_toArray, List.set_cons_zero, List.set_cons_succ]
        refine WD_free (i := 5) (oi := _) (v := ?_) rfl (by kernel_rfl) (fun _ _ _ h => h) (Or.inl ⟨by rfl, ?_⟩) ?_
        rotate_left
        · (intro W hS; (try dsimp only at hS); clear hS; go_simp; with_reducible rfl)
        try simp only [Act.put, List.getElem_toArray, List.getElem_cons_succ, List.getElem_cons_zero, List.setIfInBounds_toArray, List.set_cons_zero, List.set_cons_succ]
        refine WD_free (i := 6) (oi := _) (v := ?_) rfl (by kernel_rfl) (fun _ _ _ h => h) (Or.inl ⟨by rfl, ?_⟩) ?_
        rotate_left
        · (intro W hS; (try dsimp only at hS); clear hS; go_simp; with_reducible rfl)
        try simp only [Act.put, List.getElem_toArray, List.getElem_cons_succ, List.getElem_cons_zero, List.setIfInBounds_toArray, List.set_cons_zero, List.set_cons_succ]
        refine WD_free (i := 7) (oi := _) (v := ?_) rfl (by kernel_rfl) (fun _ _ _ h => h) (Or.inl ⟨by rfl, ?_⟩) ?_
        rotate_left
        · (intro W hS; (try dsimp only at hS); clear hS; go_simp; with_reducible rfl)
        try simp only [Act.put, List.getElem_toArray, List.getElem_cons_succ, List.getElem_cons_zero, List.setIfInBounds_toArray, List.set_cons_zero, List.set_cons_succ]
        refine WD_free (i := 9) (oi := _) (v := ?_) rfl (by kernel_rfl) (fun _ _ _ h => h) (Or.inl ⟨by rfl, ?_⟩) ?_
        rotate_left
        · (intro W hS; (try dsimp only at hS); clear hS; go_simp; with_reducible rfl)
        try simp only [Act.put, List.getElem_toArray, List.getElem_cons_succ, List.getElem_cons_zero, List.setIfInBounds_toArray, List.set_cons_zero, List.set_cons_succ]
        refine WD_free (i := 11) (oi := _) (v := ?_) rfl (by kernel_rfl) (fun _ _ _ h => h) (Or.inl ⟨by rfl, ?_⟩) ?_
        rotate_left
        · (intro W hS; (try dsimp only at hS); clear hS; go_simp; with_reducible rfl)
        try simp only [Act.put, List.getElem_toArray, List.getElem_cons_succ, List.getElem_cons_zero, List.setIfInBounds_toArray, List.set_cons_zero, List.set_cons_succ]
        refine WD_step (i := 8) (o := _) rfl (by kernel_rfl) (fun K hK => ?_)
        go_simp
        refine (euclid_Mod (y - s) p _ (by omega) (by omega)).mono ?_
        rintro e w6 ⟨rfl, rfl⟩
        go_wp2_with fail
        replace hHeld := hHeld
        refine hK.out _ _ (fun _ _ => hHeld) ?_
        clear hK K
        try simp only [Act.put, List.getElem_toArray, List.getElem_cons_succ, List.getElem_cons_zero, List.setIfInBounds_toArray, List.set_cons_zero, List.set_cons_succ]
        refine WD_free (i := 10) (oi := _) (v := ?_) rfl (by kernel_rfl) (fun _ _ _ h => h) (Or.inl ⟨by rfl, ?_⟩) ?_
        rotate_left
        · (intro W hS; (try dsimp only at hS); clear hS; go_simp; with_reducible rfl)
        try simp only [Act.put, List.getElem_toArray, List.getElem_cons_succ, List.getElem_cons_zero, List.setIfInBounds_toArray, List.set_cons_zero, List.set_cons_succ]
        refine WD_free (i := 12) (oi := _) (v := ?_) rfl (by kernel_rfl) (fun _ _ _ h => h) (Or.inl ⟨by rfl, ?_⟩) ?_
        rotate_left
        · (intro W hS; (try dsimp only at hS); clear hS; go_simp; with_reducible rfl)
        try simp only [Act.put, List.getElem_toArray, List.getElem_cons_succ, List.getElem_cons_zero, List.setIfInBounds_toArray, List.set_cons_zero, List.set_cons_succ]
        refine WD_free (i := 13) (oi := _) (v := ?_) rfl (by kernel_rfl) (fun _ _ _ h => h) (Or.inl ⟨by rfl, ?_⟩) ?_
        rotate_left
        · (intro W hS; (try dsimp only at hS); clear hS; go_simp; with_reducible rfl)
        try simp only [Act.put, List.getElem_toArray, List.getElem_cons_succ, List.getElem_cons_zero, List.setIfInBounds_toArray, List.set_cons_zero, List.set_cons_succ]
        refine WD_step (i := 14) (o := _) rfl (by kernel_rfl) (fun K hK => ?_)
        go_simp
        refine hK.out _ _ (fun _ hS => hS.alloc hS.size _) ?_
        clear hK K
        try simp only [Act.put, List.getElem_toArray, List.getElem_cons_succ, List.getElem_cons_zero, List.setIfInBounds_toArray, List.set_cons_zero, List.set_cons_succ]
        refine WD_step (i := 15) (o := _) rfl (by kernel_rfl) (fun K hK => ?_)
        refine step_append_own rfl (.tmp 49) (.tmp 63) 39 rfl w1.heap.size 43 i0 (.agg #[.int .i64 0, .int .i64 0]) 2 16 hu hi hz0 hz1 hz2 rfl (by decide) _ _ _ rfl (hr5.alloc _).drew ⟨w5.heap.size, 0, none⟩ 1 1 [.int .i64 x, .int .i64 ((y - s) % p * i % p)] rfl rfl (fun j u hj => cell_two_new w5 (.int .i64 x) (.int .i64 ((y - s) % p * i % p)) 43 j u hj) (by simp [Value.oneCell']) (by unfold maxLen; omega) (by omega) (by simp; omega) ?_
        intro v' w7 hown' hg2
        refine hK.out _ _ (fun h => by cases h) ?_
        clear hK K
        try simp only [Act.put, List.getElem_toArray, List.getElem_cons_succ, List.getElem_cons_zero, List.setIfInBounds_toArray, List.set_cons_zero, List.set_cons_succ]
        refine WD_free (i := 16) (oi := _) (v := ?_) rfl (by kernel_rfl) (fun _ _ _ h => h) (Or.inl ⟨by rfl, ?_⟩) ?_
        rotate_left
        · (intro W hS; (try dsimp only at hS); clear hS; go_simp; with_reducible rfl)
        try simp only [Act.put, List.getElem_toArray, List.getElem_cons_succ, List.getElem_cons_zero, List.setIfInBounds_toArray, List.set_cons_zero, List.set_cons_succ]
        refine WD_done (by kernel_rfl) ?_ _
        have s2' := hg2.size
        simp at s2'
        go_wp2
        go_round
        case rel =>
          refine ⟨I + 1, qs ++ [(x, (y - s) % p * i % p)], by go_num, by omega, (hbt.alloc (by omega) _).drew.grown hg2 (by simp; omega) (fun j hj => (hr5.lt j hj).1), ?_, Lib.hid (HE.out.step x y i _ HV.out HI1.out rfl)⟩
          rw [flatI_append]; exact hown'
        case measure => simp [intOf]; omega
      · exfalso
        have hpr := prB_true HPB.out
        obtain ⟨P, rfl⟩ := Int.eq_ofNat_of_zero_le (show 0 ≤ p by omega)
        have hP : M.Pr P := by simpa using hpr
        refine hne ?_
        rw [Int.gcd_comm]
        refine hP.gcd_int fun hd => ?_
        have := Int.le_of_dvd (by omega) hd
        omega
    · obtain rfl : I = L := by omega
      rw [← HL.out] at HE
      have hwq := HE.out.wrong HW.out
      obtain ⟨aq, cq, rfl, hq⟩ := own_rowP (pts := qs) (by rw [HE.out.1, HL.out]; exact hr)
      have HT := Lib.hid (poly_Through p aq cq qs wr hq (L := I) (by rw [HE.out.1, HL.out]) hwq)
      have hql : qs.length = I := by rw [HE.out.1, HL.out]
      rw [hql]
      have HQL := Lib.hid hql
      clear hwq hq hr hql
      go_wp2_with fail
      refine HT.out.mono ?_
      rintro e w5 ⟨⟨aa, ca, A, rfl, hA, hpost⟩, hb5⟩
      have hal : A.length ≤ I := by have := hpost.an; rw [HQL.out] at this; exact this
      have HC := Lib.hid (slices_CloneL aa ca A w5 hA (by omega))
      obtain ⟨N, hN⟩ : ∃ N, A.length = N := ⟨_, rfl⟩
      have HN := Lib.hid hN
      rw [hN] at HC hal ⊢
      have HPo := Lib.hid hpost
      obtain ⟨i1, hi1, hzz0, hzz1, hzz2⟩ := info_parts long_info
      have hu1 : Try.prog.underlying 22 = some (.slice 2) := by kernel_rfl
      have hu3 : Try.prog.underlying 3 = some (.int .i64) := by kernel_rfl
      obtain ⟨dd, hdd⟩ : ∃ dd : Nat, (I : Int) - N = dd := ⟨I - N, by omega⟩
      have HD : Hid (dd = I - N) := Lib.hid (by omega)
      have fw : IntKind.i64.wrap ((I : Int) - N) = dd := by rw [hdd]; exact IntWalk.i64_in _ (by omega)
      have hdl : dd ≤ 12 := by omega
      have hbt := below_two (below_two hb1 hb) hb5
      clear hN hA hpost hdd
      go_wp2_with fail
      refine HC.out.mono ?_
      rintro e w6 ⟨v6, rfl, hb6, ho6⟩
      have z6 := hb6.size
      go_wp2_with (at_builtin; refine wpList_append_zeros _ rfl _ _ 22 3 rfl w5.heap.size 2 i1 8 .i64 hu1 hu3 hi1 hzz0 hzz1 hzz2 (by omega) v6 N (inV A) rfl ho6 dd rfl (by omega) (by omega) ?_; intro v7 w7 ho7 hg7)
      have hX : inV (A ++ List.replicate dd 0) = inV A ++ List.replicate dd (Value.int .i64 0) := by rw [inV_append]; simp [inV]
      have hXl : (A ++ List.replicate dd 0).length = N + dd := by simp [HN.out]
      have hND : N + dd = I := by have := HD.out; omega
      have hg1 := (below_two hbt hb6).grown hg7 (by have := hbt.size; omega) (fun j hj => Nat.le_trans hbt.size (ho6.lt j hj).1)
      rw [← hX, ← hXl] at ho7
      obtain ⟨a7, c7, rfl, h7⟩ := own_rowL ho7
      rw [hXl, hND]
      go_wp2
      go_ret2
      refine ⟨⟨a7, c7, A ++ List.replicate dd 0, rfl, h7, by rw [hXl, hND], fun x hx => ?_, fun v hv => ?_⟩, hg1⟩
      · rcases List.mem_append.1 hx with h | h
        · exact HPo.out.ar x h
        · rw [(List.mem_replicate.1 h).2]; exact ⟨Int.le_refl _, by omega⟩
      · obtain ⟨j, hj, rfl⟩ := List.mem_iff_getElem.1 hv
        obtain ⟨i, k, q1, q2, q3⟩ := HE.out.2 j _ hj (List.getElem?_eq_getElem hj)
        have hh := HPo.out.hit _ (List.mem_of_getElem? q1)
        simp only at hh
        have hr := HRg.out _ (List.getElem_mem hj)
        have := explain_hit (s := s) dd (show 1 ≤ p by omega) ⟨hr.2.2.1, hr.2.2.2⟩ q2 (hh.trans q3)
        exact this
end Go.Proofs.Ytfgmnlphejpcaaa
