/- The contract of poly.Through. -/
import Derived.Test.YtfgmnlphejpcaaaThrM
import Derived.Test.YtfgmnlphejpcaaaKeep
import Derived.Test.YtfgmnlphejpcaaaOwnG
import Derived.Test.YtfgmnlphejpcaaaHold
import Derived.Deep.RegionWith
namespace Go.Proofs.Ytfgmnlphejpcaaa
open Go.RowKit
set_option linter.unusedVariables false
set_option linter.unusedSimpArgs false
theorem rowL_two (w : World) (u v : Int) : RowL (w.alloc (.cells #[.int .i64 u, .int .i64 v] 2)) (some ⟨w.heap.size, 0, none⟩) 2 [u, v] := by
  refine ⟨fun e => (by cases e), fun ad e j x hx => ?_, by simp⟩
  cases e
  rw [add_at]
  match j with
  | 0 => simp [inV] at hx; subst hx; simp [go_sem]
  | 1 => simp [inV] at hx; subst hx; simp [go_sem]
  | j + 2 => simp [inV] at hx
theorem wrong_good {p : Int} {pts : List (Int × Int)} (h : wrongE p pts = 0) : primeE p = 0 ∧ pts.length ≤ 13 ∧ (∀ v ∈ pts, 0 ≤ v.1 ∧ v.1 < p ∧ 0 ≤ v.2 ∧ v.2 < p) ∧ (pts.map (·.1)).Nodup := by
  unfold wrongE at h
  split at h
  · rename_i h1; exact absurd h h1
  · rename_i h1
    split at h
    · omega
    · split at h
      · omega
      · rename_i h2 h3
        split at h
        · rename_i h4
          refine ⟨by simpa using h1, by omega, fun v hv => ?_, h4⟩
          have : ¬ badP p v = true := fun e => h3 (List.any_eq_true.2 ⟨v, hv, e⟩)
          simp [badP, badB] at this
          omega
        · omega
/-- what Through answers -/
structure TPost (p : Int) (pts : List (Int × Int)) (A : List Int) : Prop where
  ar : ∀ x ∈ A, 0 ≤ x ∧ x < p
  al : A.getLastD 1 ≠ 0
  an : A.length ≤ pts.length
  hit : ∀ v ∈ pts, valL p A v.1 = v.2
theorem mul_bd3 {p a b : Int} (hp2 : p ≤ 251) (h1 : 0 ≤ a) (h2 : a < p) (h3 : 0 ≤ b) (h4 : b < p) : 0 ≤ a * b ∧ a * b ≤ 63001 := mul_bd2 hp2 h1 h2 h3 h4
set_option maxRecDepth 20000 in
set_option maxHeartbeats 1600000 in
theorem poly_Through_bad (p : Int) (a : Option Addr) (c : Nat) (pts : List (Int × Int)) (w : World) {L : Nat} (h : RowP w a c pts) (eL : pts.length = L) (hl : L ≤ 9223372036854775807) (hw : wrongE p pts ≠ 0) :
    Calls Try.prog 24 #[.int .i64 p, .slice a L c] w fun e w' => (∃ t, t ≠ 0 ∧ e = .returned (.tuple #[.slice none 0 0, .int .i64 t])) ∧ Below w.heap.size w w' := by
  have HW := Lib.hid (poly_wrong p a c pts w h (by rw [eL]; exact hl))
  obtain ⟨t, ht⟩ : ∃ t, wrongE p pts = t := ⟨_, rfl⟩
  rw [ht, eL] at HW
  rw [ht] at hw
  have H0 := Lib.hid hw
  have q1 : (t == 0) = false := by simpa using hw
  have q2 : (t != 0) = true := by simpa using hw
  clear h eL ht hw
  go_enter Try.func24, Try.ntmps24
  go_wp2_with fail
  refine HW.out.mono ?_
  rintro e w1 ⟨rfl, hb1⟩
  go_wp2
  go_ret2
  exact ⟨⟨t, H0.out, rfl⟩, hb1⟩
set_option maxRecDepth 100000 in
set_option maxHeartbeats 6400000 in
theorem poly_Through (p : Int) (a : Option Addr) (c : Nat) (pts : List (Int × Int)) (w : World) {L : Nat} (h : RowP w a c pts) (eL : pts.length = L) (hw : wrongE p pts = 0) :
    Calls Try.prog 24 #[.int .i64 p, .slice a L c] w fun e w' => (∃ (aa : Option Addr) (ca : Nat) (A : List Int), e = .returned (.tuple #[.slice aa A.length ca, .int .i64 0]) ∧ RowL w' aa ca A ∧ TPost p pts A) ∧ Below w.heap.size w w' := by
  obtain ⟨hpr, hlen, hrg, hnd⟩ := wrong_good hw
  have hp := primeE_zero hpr
  have HW := Lib.hid (poly_wrong p a c pts w h (by unfold maxLen; omega))
  rw [hw, eL] at HW
  have HR := Lib.hid h
  have HL := Lib.hid eL
  have HIn := Lib.hid (tinv_init hp.1 pts)
  have HSt := Lib.hid fun I A Z (h : TInv p pts I A Z) x y => tinv_step hp.2.2 hp.1 h hnd hrg x y
  have HRg := Lib.hid hrg
  have HVal := Lib.hid fun (x : Int) (A : List Int) aa ca w' (hx : 0 ≤ x ∧ x < p) (h : RowL w' aa ca A) (hl : A.length ≤ 100) (hr : ∀ y ∈ A, 0 ≤ y ∧ y < p) => poly_Value p x aa ca A w' (by omega) hp.2.1 hx.1 hx.2 h (by omega) hr
  have HInv := Lib.hid fun x w (h1 : 1 ≤ x) (h2 : x < p) => poly_inverse x p w h1 h2 hp.2.1 hp.2.2
  have HPl := Lib.hid fun (A Z : List Int) aa az ca cz (k : Int) w' (hk : 0 ≤ k ∧ k < p) (h1 : RowL w' aa ca A) (h2 : RowL w' az cz Z) (l1 : A.length ≤ 100) (l2 : Z.length ≤ 100) (r1 : ∀ y ∈ A, 0 ≤ y ∧ y < p) (r2 : ∀ y ∈ Z, 0 ≤ y ∧ y < p) => poly_Plus p k 0 aa az ca cz A Z w' (by omega) hp.2.1 (by have := hp.2.1; omega) (by have := hp.2.1; omega) (by omega) h1 h2 (by omega) (by omega) r1 r2
  have HTm := Lib.hid fun (Z : List Int) az cz (u : Int) ab cb w' (hu : 0 ≤ u ∧ u < p) (h2 : RowL w' az cz Z) (h3 : RowL w' ab cb [u, 1]) (l2 : Z.length ≤ 100) (r2 : ∀ y ∈ Z, 0 ≤ y ∧ y < p) => poly_Times p az ab cz cb Z [u, 1] w' (by omega) hp.2.1 h2 h3 (by omega) (by simp) r2 (fun y hy => by have := hp.1; simp at hy; rcases hy with rfl | rfl <;> omega)
  simp only [List.length_cons, List.length_nil] at HTm
  have HVr := Lib.hid fun (A : List Int) (t : Int) => val_rng' (show 1 ≤ p by omega) A t
  have p1 := hp.1
  have p2 := hp.2.1
  have hl13 : L ≤ 13 := by omega
  have z0 : (p == 0) = false := by simp; omega
  have z1 : ¬ p = 0 := by omega
  clear h hw eL hpr hlen hrg hnd hp
  go_enter Try.func24, Try.ntmps24
  go_wp2_with fail
  refine HW.out.mono ?_
  rintro e w1 ⟨rfl, hb1⟩
  have HR1 := Lib.hid (HR.out.below hb1 (Nat.le_refl _))
  go_wp2
  go_loopw [22, 7, 8] (fun i va vz wr => ∃ (I : Nat) (A Z : List Int) (aa az : Option Addr) (ca cz : Nat), i = .int .i64 I ∧ va = .slice aa A.length ca ∧ vz = .slice az Z.length cz ∧ I ≤ L ∧ TInv p pts I A Z ∧ RowL wr aa ca A ∧ RowL wr az cz Z ∧ Below w1.heap.size w1 wr) (fun i _ _ _ => L - (intOf i).toNat)
  case atStart => exact ⟨0, [], [1], none, some ⟨w1.heap.size, 0, none⟩, 0, 1, rfl, rfl, rfl, Nat.zero_le _, HIn.out, RowL.nil _, rowL_new w1 1, alloc_below w1 _⟩
  case round =>
    obtain ⟨I, A, Z, aa, az, ca, cz, rfl, rfl, rfl, hI, hT, ha, hz, hb⟩ := hrel
    by_cases hlt : I < L
    · obtain ⟨v, hv⟩ : ∃ v, pts[I]? = some v := ⟨_, List.getElem?_eq_getElem (by rw [HL.out]; omega)⟩
      obtain ⟨b, o, rfl, hcell⟩ := (HR1.out.below hb (Nat.le_refl _)).shape (by rw [HL.out]; omega)
      obtain ⟨x, y⟩ := v
      obtain ⟨kx, ky⟩ := hcell I (x, y) hv
      simp only at kx ky
      obtain ⟨x1, x2, y1, y2⟩ := HRg.out _ (List.mem_of_getElem? hv)
      simp only at x1 x2 y1 y2
      obtain ⟨hzne, hst⟩ := HSt.out I A Z hT x y hv
      have HST := Lib.hid hst
      have hzr := HVr.out Z x
      have har := HVr.out A x
      have HA := Lib.hid ha
      have HZ := Lib.hid hz
      have hAn := hT.an
      have hZn := hT.zn
      have HAr := Lib.hid hT.ar
      have HZr := Lib.hid hT.zr
      have HCA := Lib.hid fun w' (h : RowL w' aa ca A) => HVal.out x A aa ca w' ⟨x1, x2⟩ h (by omega) HAr.out
      have HCZ := Lib.hid fun w' (h : RowL w' az cz Z) => HVal.out x Z az cz w' ⟨x1, x2⟩ h (by omega) HZr.out
      have HPZ := Lib.hid fun k w' hk (h1 : RowL w' aa ca A) (h2 : RowL w' az cz Z) => HPl.out A Z aa az ca cz k w' hk h1 h2 (by omega) (by omega) HAr.out HZr.out
      have HTZ := Lib.hid fun u ab cb w' hu (h2 : RowL w' az cz Z) (h3 : RowL w' ab cb [u, 1]) => HTm.out Z az cz u ab cb w' hu h2 h3 (by omega) HZr.out
      obtain ⟨va, hva⟩ : ∃ u, valL p A x = u := ⟨_, rfl⟩
      obtain ⟨vz, hvz⟩ : ∃ u, valL p Z x = u := ⟨_, rfl⟩
      rw [hva] at HCA HST har
      rw [hvz] at HCZ HST hzne hzr
      obtain ⟨nA, hnA⟩ : ∃ n, A.length = n := ⟨_, rfl⟩
      obtain ⟨nZ, hnZ⟩ : ∃ n, Z.length = n := ⟨_, rfl⟩
      rw [hnA] at HCA HPZ hAn ⊢
      rw [hnZ] at HCZ HPZ HTZ hZn ⊢
      obtain ⟨z3, z4⟩ := hzr
      obtain ⟨a3, a4⟩ := har
      have z5 : 1 ≤ vz := by omega
      clear hcell hv hst hT ha hz hva hvz hnA hnZ hzne
      obtain ⟨B, hB⟩ : ∃ B, wr.alloc (.cells #[.int .i64 x, .int .i64 y] 43) = B := ⟨_, rfl⟩
      have cx : B.cell? ⟨wr.heap.size, 0, none⟩ = some (.int .i64 x) := by rw [← hB]; simp [go_sem]
      have cy : B.cell? ⟨wr.heap.size, 1, none⟩ = some (.int .i64 y) := by rw [← hB]; simp [go_sem]
      have hbB : Below wr.heap.size wr B := hB ▸ alloc_below wr _
      have hbt := below_two hb hbB
      have HAB := Lib.hid (HA.out.below hbB (Nat.le_refl _))
      have HZB := Lib.hid (HZ.out.below hbB (Nat.le_refl _))
      have zB : wr.heap.size < B.heap.size := by rw [← hB]; simp
      have r1 := Int.emod_nonneg (y - va) (show p ≠ 0 by omega)
      have r2 := Int.emod_lt_of_pos (y - va) (show 0 < p by omega)
      have fw : IntKind.i64.wrap (y - va) = y - va := IntWalk.i64_in _ (by omega)
      go_wp2_with fail
      clear hB
      refine wp_region_D (S := (fun W : World => Below B.heap.size B W)) (fun _ => true) (by kernel_rfl) (Below.refl _ _).drew (fun hHeld => ?_)
      simp only [List.size_toArray, List.length_cons, List.length_nil, Nat.reduceAdd, Array.replicate_succ, Array.replicate_zero, List.push_toArray, List.append_toArray, List.nil_append, List.cons_append]
      refine WD_free (i := 0) (oi := _) (v := ?_) rfl (by kernel_rfl) (fun _ _ _ h => h) (Or.inl ⟨by rfl, ?_⟩) ?_
      rotate_left
      · (intro W hS; (try dsimp only at hS); clear hS; go_simp; with_reducible rfl)
      try simp only [Act.put, List.getElem_toArray, List.getElem_cons_succ, List.getElem_cons_zero, List.setIfInBounds_toArray, List.set_cons_zero, List.set_cons_succ]
      refine WD_take (i := 1) (oi := _) (v := ?_) rfl (by kernel_rfl) (fun _ _ _ h => h) (Or.inl ⟨by rfl, ?_⟩) (by assumption) ?_
      rotate_left
      · (intro W hS; (try dsimp only at hS); have kk := (hS.cell (p := ⟨wr.heap.size, 1, none⟩) zB).trans cy; clear hS; go_simp; with_reducible rfl)
      try simp only [Act.put, List.getElem_toArray, List.getElem_cons_succ, List.getElem_cons_zero, List.setIfInBounds_toArray, List.set_cons_zero, List.set_cons_succ]
      refine WD_free (i := 2) (oi := _) (v := ?_) rfl (by kernel_rfl) (fun _ _ _ h => h) (Or.inl ⟨by rfl, ?_⟩) ?_
      rotate_left
      · (intro W hS; (try dsimp only at hS); clear hS; go_simp; with_reducible rfl)
      try simp only [Act.put, List.getElem_toArray, List.getElem_cons_succ, List.getElem_cons_zero, List.setIfInBounds_toArray, List.set_cons_zero, List.set_cons_succ]
      refine WD_free (i := 3) (oi := _) (v := ?_) rfl (by kernel_rfl) (fun _ _ _ h => h) (Or.inl ⟨by rfl, ?_⟩) ?_
      rotate_left
      · (intro W hS; (try dsimp only at hS); clear hS; go_simp; with_reducible rfl)
      try simp only [Act.put, List.getElem_toArray, List.getElem_cons_succ, List.getElem_cons_zero, List.setIfInBounds_toArray, List.set_cons_zero, List.set_cons_succ]
      refine WD_free (i := 4) (oi := _) (v := ?_) rfl (by kernel_rfl) (fun _ _ _ h => h) (Or.inl ⟨by rfl, ?_⟩) ?_
      rotate_left
      · (intro W hS; (try dsimp only at hS); clear hS; go_simp; with_reducible rfl)
      try simp only [Act.put, List.getElem_toArray, List.getElem_cons_succ, List.getElem_cons_zero, List.setIfInBounds_toArray, List.set_cons_zero, List.set_cons_succ]
      refine WD_take (i := 5) (oi := _) (v := ?_) rfl (by kernel_rfl) (fun _ _ _ h => h) (Or.inl ⟨by rfl, ?_⟩) (by assumption) ?_
      rotate_left
      · (intro W hS; (try dsimp only at hS); have kk := (hS.cell (p := ⟨wr.heap.size, 0, none⟩) zB).trans cx; clear hS; go_simp; with_reducible rfl)
      try simp only [Act.put, List.getElem_toArray, List.getElem_cons_succ, List.getElem_cons_zero, List.setIfInBounds_toArray, List.set_cons_zero, List.set_cons_succ]
      refine WD_free (i := 8) (oi := _) (v := ?_) rfl (by kernel_rfl) (fun _ _ _ h => h) (Or.inl ⟨by rfl, ?_⟩) ?_
      rotate_left
      · (intro W hS; (try dsimp only at hS); clear hS; go_simp; with_reducible rfl)
      try simp only [Act.put, List.getElem_toArray, List.getElem_cons_succ, List.getElem_cons_zero, List.setIfInBounds_toArray, List.set_cons_zero, List.set_cons_succ]
      refine WD_step (i := 6) (o := _) rfl (by kernel_rfl) (fun K hK => ?_)
      go_simp
      refine (HCA.out _ (HAB.out.below hHeld (Nat.le_refl _))).mono ?_
      rintro e w5 ⟨rfl, hb5⟩
      go_wp2_with fail
      replace hHeld := below_two hHeld hb5
      refine hK.out _ _ (fun _ _ => hHeld) ?_
      clear hK K
      try simp only [Act.put, List.getElem_toArray, List.getElem_cons_succ, List.getElem_cons_zero, List.setIfInBounds_toArray, List.set_cons_zero, List.set_cons_succ]
      refine WD_free (i := 7) (oi := _) (v := ?_) rfl (by kernel_rfl) (fun _ _ _ h => h) (Or.inl ⟨by rfl, ?_⟩) ?_
      rotate_left
      · (intro W hS; (try dsimp only at hS); clear hS; go_simp; with_reducible rfl)
      try simp only [Act.put, List.getElem_toArray, List.getElem_cons_succ, List.getElem_cons_zero, List.setIfInBounds_toArray, List.set_cons_zero, List.set_cons_succ]
      refine WD_step (i := 9) (o := _) rfl (by kernel_rfl) (fun K hK => ?_)
      go_simp
      refine (euclid_Mod (y - va) p _ (by omega) (by omega)).mono ?_
      rintro e w6 ⟨rfl, rfl⟩
      go_wp2_with fail
      replace hHeld := hHeld
      refine hK.out _ _ (fun _ _ => hHeld) ?_
      clear hK K
      try simp only [Act.put, List.getElem_toArray, List.getElem_cons_succ, List.getElem_cons_zero, List.setIfInBounds_toArray, List.set_cons_zero, List.set_cons_succ]
      refine WD_free (i := 10) (oi := _) (v := ?_) rfl (by kernel_rfl) (fun _ _ _ h => h) (Or.inl ⟨by rfl, ?_⟩) ?_
      rotate_left
      · (intro W hS; (try dsimp only at hS); clear hS; go_simp; with_reducible rfl)
      try simp only [Act.put, List.getElem_toArray, List.getElem_cons_succ, List.getElem_cons_zero, List.setIfInBounds_toArray, List.set_cons_zero, List.set_cons_succ]
      refine WD_done (by kernel_rfl) ?_ _
      have kx5 := (hHeld.cell (p := ⟨wr.heap.size, 0, none⟩) zB).trans cx
      clear fw
      go_wp2_with fail
      refine (HCZ.out _ (HZB.out.below hHeld (Nat.le_refl _))).mono ?_
      rintro e w6 ⟨rfl, hb6⟩
      have h6 := below_two hHeld hb6
      clear hHeld hb6 kx5
      go_wp2_with fail
      refine (HInv.out vz _ z5 z4).mono ?_
      rintro e w7 ⟨⟨i, rfl, i1, i2, i3⟩, hb7⟩
      have h7 := below_two h6 hb7
      obtain ⟨m1, m2⟩ := mul_bd2 p2 r1 r2 i1 i2
      have s1 := Int.emod_nonneg ((y - va) % p * i) (show p ≠ 0 by omega)
      have s2 := Int.emod_lt_of_pos ((y - va) % p * i) (show 0 < p by omega)
      have HNew := Lib.hid (HST.out i _ _ i3 rfl rfl)
      clear h6 hb7 i3
      go_wp2_with fail
      refine (HPZ.out ((y - va) % p * i % p) _ ⟨s1, s2⟩ (HAB.out.below h7 (Nat.le_refl _)) (HZB.out.below h7 (Nat.le_refl _))).mono ?_
      rintro e w8 ⟨⟨a2, c2, rfl, ha2⟩, hb8⟩
      have h8 := below_two h7 hb8
      have kx8 := (h8.cell (p := ⟨wr.heap.size, 0, none⟩) zB).trans cx
      have u1 := Int.emod_nonneg (-x) (show p ≠ 0 by omega)
      have u2 := Int.emod_lt_of_pos (-x) (show 0 < p by omega)
      clear h7 hb8 m1 m2
      go_wp2_with fail
      refine (euclid_Mod (-x) p _ (by omega) (by omega)).mono ?_
      rintro e w9 ⟨rfl, rfl⟩
      go_wp2_with fail
      refine (HTZ.out (-x % p) _ _ _ ⟨u1, u2⟩ ((HZB.out.below h8 (Nat.le_refl _)).below (alloc_below w8 _) (Nat.le_refl _)) (rowL_two w8 _ _)).mono ?_
      rintro e w10 ⟨⟨z2, d2, rfl, hz2⟩, hb10⟩
      have hb11 := below_two (alloc_below w8 _) hb10
      go_wp2
      go_round
      case rel => exact ⟨I + 1, _, _, a2, z2, c2, d2, by go_num, rfl, rfl, by omega, HNew.out, ha2.below hb11 (Nat.le_refl _), hz2, below_two (below_two hbt h8) hb11⟩
      case measure => simp [intOf]; omega
    · obtain rfl : I = L := by omega
      have HTP : Hid (TPost p pts A) := Lib.hid ⟨hT.ar, hT.al, by rw [HL.out]; exact hT.an, fun v hv => by
        obtain ⟨j, hj, rfl⟩ := List.mem_iff_getElem.1 hv
        exact hT.hit j _ (by rw [← HL.out]; exact hj) (List.getElem?_eq_getElem hj)⟩
      obtain ⟨nA, hnA⟩ : ∃ n, A.length = n := ⟨_, rfl⟩
      have HNA := Lib.hid hnA
      rw [hnA]
      clear hT hz hnA
      go_wp2
      go_ret2
      exact ⟨⟨aa, ca, A, by rw [HNA.out]; rfl, ha, HTP.out⟩, below_two hb1 hb⟩
end Go.Proofs.Ytfgmnlphejpcaaa
