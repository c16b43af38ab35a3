/- The walk of PolyOne. -/
import Derived.Test.YtfgmnlphejpcaaaVal2
import Derived.Test.YtfgmnlphejpcaaaIsPts
import Derived.Test.YtfgmnlphejpcaaaAt
namespace Go.Proofs.Ytfgmnlphejpcaaa
open Go.RowKit
set_option linter.unusedVariables false
set_option linter.unusedSimpArgs false
/-- has the polynomial come through the first points -/
def Thr (p : Int) (xs : List Int) (pts : List (Int × Int)) (I : Nat) (B : Bool) : Prop := B = true → ∀ (j : Nat) (v : Int × Int), j < I → pts[j]? = some v → Good p xs ∧ valL p xs v.1 = v.2
theorem one_law {p : Int} {pts : List (Int × Int)} {A xs : List Int} (hw : wrongE p pts = 0) (hA : TPost p pts A) (hg : Good p xs) (hl : xs.length ≤ pts.length) (ht : Thr p xs pts pts.length true) : xs = A := by
  obtain ⟨hpr, hlen, hrg, hnd⟩ := wrong_good hw
  have hp := primeE_zero hpr
  refine uniq_list hp.2.2 hp.1 (n := pts.length) hg.rng hA.ar hg.last hA.al hl hA.an (pts.map (·.1)) hnd (fun x hx => by
    obtain ⟨v, hv, rfl⟩ := List.mem_map.1 hx
    have := hrg v hv
    omega) (by simp) (fun x hx => by
    obtain ⟨v, hv, rfl⟩ := List.mem_map.1 hx
    obtain ⟨j, hj, rfl⟩ := List.mem_iff_getElem.1 hv
    rw [hA.hit _ hv, (ht rfl j _ hj (List.getElem?_eq_getElem hj)).2])
theorem tpost_good {p : Int} {pts : List (Int × Int)} {A : List Int} (hw : wrongE p pts = 0) (hA : TPost p pts A) : Good p A := by
  obtain ⟨hpr, hlen, hrg, hnd⟩ := wrong_good hw
  exact ⟨hpr, by have := hA.an; omega, hA.ar, hA.al⟩
set_option maxRecDepth 100000 in
set_option maxHeartbeats 6400000 in
theorem WPolyOne (a0 : Int) (a1 : Option Addr) (len1 cap1 : Nat) (z1 : List (Int × Int)) (a2 : Option Addr) (len2 cap2 : Nat) (z2 : List Int) (w : World) (w0 : (Lit.int .i64 a0).wf = true) (w1 : IsPts w a1 len1 cap1 z1) (w2 : IsRow .i64 w a2 len2 cap2 z2) :
    Calls Try.prog 7 #[.int .i64 a0, .slice a1 len1 cap1, .slice a2 len2 cap2] w fun e w' => e = .returned (.bool true) ∧ Below w.heap.size w w' := by
  obtain ⟨e1, h1, m1⟩ := w1.pts
  obtain ⟨xs, e2, h2, _, m2⟩ := w2.longs
  clear w0 w1 w2 z2
  unfold maxLen at m2
  have HR1 := Lib.hid h1
  have HR2 := Lib.hid h2
  have E1 := Lib.hid e1
  have E2 := Lib.hid e2
  have HPC := Lib.hid fun w' (h : RowP w' a1 cap1 z1) => ref_PointsCheck a0 a1 cap1 z1 w' h e1 m1
  by_cases hw : wrongE a0 z1 = 0
  · obtain ⟨hpr, hlen, hrg, hnd⟩ := wrong_good hw
    have hp := primeE_zero hpr
    rw [hw] at HPC
    have HT := Lib.hid (poly_Through a0 a1 cap1 z1 w h1 e1 hw)
    have HW := Lib.hid hw
    have HRg := Lib.hid hrg
    have p1 := hp.1
    have p2 := hp.2.1
    rw [e1] at hlen
    clear h1 h2 e1 e2 hw hpr hrg hnd hp
    go_enter Try.func7, Try.ntmps7
    go_wp2_with fail
    refine HT.out.mono ?_
    rintro e w1 ⟨⟨aa, ca, A, rfl, ha, hpost⟩, hb1⟩
    have HPo := Lib.hid hpost
    have HGA := Lib.hid (tpost_good HW.out hpost)
    have hAn := hpost.an
    rw [E1.out] at hAn
    have HA := Lib.hid ha
    obtain ⟨nA, hnA⟩ : ∃ n, A.length = n := ⟨_, rfl⟩
    have HNA := Lib.hid hnA
    rw [hnA] at hAn ⊢
    clear hpost ha hnA
    go_wp2_with fail
    refine (HPC.out _ (HR1.out.below hb1 (Nat.le_refl _))).mono ?_
    rintro e w2 ⟨rfl, hb2⟩
    have hb3 := below_two hb1 hb2
    go_wp2_with fail
    refine (sound_one' true HNA.out (by omega) (HA.out.below hb2 (Nat.le_refl _)) (by rw [polyE_zero.2 HGA.out]; rfl)).mono ?_
    rintro e w3 ⟨rfl, hb4⟩
    have HA3 := Lib.hid ((HA.out.below hb2 (Nat.le_refl _)).below hb4 (Nat.le_refl _))
    have hb5 := below_two hb3 hb4
    have HR13 := Lib.hid (HR1.out.below hb5 (Nat.le_refl _))
    have HR23 := Lib.hid (HR2.out.below hb5 (Nat.le_refl _))
    clear hb1 hb2 hb3 hb4
    go_wp2
    try simp only [decide_eq_false (show ¬ len1 < nA by omega)]
    go_loopw [44, 9] (fun i v wr => ∃ (I : Nat) (B : Bool), i = .int .i64 I ∧ v = .bool B ∧ I ≤ len1 ∧ Below w3.heap.size w3 wr ∧ Hid (Thr a0 xs z1 I B)) (fun i _ _ => len1 - (intOf i).toNat)
    case atStart => exact ⟨0, true, rfl, rfl, Nat.zero_le _, Below.refl _ _, Lib.hid fun _ j v hj => absurd hj (Nat.not_lt_zero _)⟩
    case round =>
      obtain ⟨I, Bo, rfl, rfl, hI, hb, HTh⟩ := hrel
      by_cases hlt : I < len1
      · obtain ⟨v, hv⟩ : ∃ v, z1[I]? = some v := ⟨_, List.getElem?_eq_getElem (by rw [E1.out]; omega)⟩
        obtain ⟨b, o, rfl, hcell⟩ := (HR13.out.below hb (Nat.le_refl _)).shape (by rw [E1.out]; omega)
        obtain ⟨x, y⟩ := v
        obtain ⟨kx, ky⟩ := hcell I (x, y) hv
        simp only at kx ky
        obtain ⟨x1, x2, y1, y2⟩ := HRg.out _ (List.mem_of_getElem? hv)
        simp only at x1 x2 y1 y2
        have hhit := HPo.out.hit _ (List.mem_of_getElem? hv)
        simp only at hhit
        have HAt := Lib.hid fun w' (h : RowL w' aa ca A) => poly_At a0 x aa ca A w' HGA.out h (by omega) (by omega)
        rw [Int.emod_eq_of_lt x1 x2, hhit, HNA.out] at HAt
        have HV := Lib.hid hv
        have HAr := Lib.hid (HA3.out.below hb (Nat.le_refl _))
        have HR2r := Lib.hid (HR23.out.below hb (Nat.le_refl _))
        clear hcell hv hhit
        go_wp2_with fail
        refine (HAt.out _ (HAr.out.below (alloc_below wr _) (Nat.le_refl _))).mono ?_
        rintro e B ⟨rfl, hbB'⟩
        have cx := kept hbB' (b := wr.heap.size) (o := 0) (v := .int .i64 x) (by simp [go_sem]) (by simp)
        have cy := kept hbB' (b := wr.heap.size) (o := 1) (v := .int .i64 y) (by simp [go_sem]) (by simp)
        have zB := hbB'.size
        simp only [World.size_alloc] at zB
        have hbB := below_two (alloc_below wr _) hbB'
        have hbt := below_two hb hbB
        have HR2B := Lib.hid (HR2r.out.below hbB (Nat.le_refl _))
        have zB2 : wr.heap.size < B.heap.size := by omega
        have t0 : (y != y) = false := by simp
        clear hbB' hb
        go_wp2_with fail
        clear t0
        cases Bo
        case false =>
          refine wp_region_D (S := (fun W : World => Below B.heap.size B W)) (fun _ => true) (by kernel_rfl) (Below.refl _ _).drew (fun hHeld => ?_)
          simp only [List.size_toArray, List.length_cons, List.length_nil, Nat.reduceAdd, Array.replicate_succ, Array.replicate_zero, List.push_toArray, List.append_toArray, List.nil_append, List.cons_append]
          refine WD_free (i := 0) (oi := _) (v := ?_) rfl (by kernel_rfl) (fun _ _ _ h => h) (Or.inl ⟨by rfl, ?_⟩) ?_
          rotate_left
          · (intro W hS; (try dsimp only at hS); clear hS; go_simp; with_reducible rfl)
          try simp only [Act.put, List.getElem_toArray, List.getElem_cons_succ, List.getElem_cons_zero, List.setIfInBounds_toArray, List.set_cons_zero, List.set_cons_succ]
          refine WD_free (i := 1) (oi := _) (v := ?_) rfl (by kernel_rfl) (fun _ _ _ h => h) (Or.inl ⟨by rfl, ?_⟩) ?_
          rotate_left
          · (intro W hS; (try dsimp only at hS); clear hS; go_simp; with_reducible rfl)
          try simp only [Act.put, List.getElem_toArray, List.getElem_cons_succ, List.getElem_cons_zero, List.setIfInBounds_toArray, List.set_cons_zero, List.set_cons_succ]
          refine WD_free (i := 2) (oi := _) (v := undef) rfl (by kernel_rfl) (fun _ _ _ h => h) (Or.inr ⟨by kernel_rfl, rfl⟩) ?_
          try simp only [Act.put, List.getElem_toArray, List.getElem_cons_succ, List.getElem_cons_zero, List.setIfInBounds_toArray, List.set_cons_zero, List.set_cons_succ]
          refine WD_free (i := 3) (oi := _) (v := undef) rfl (by kernel_rfl) (fun _ _ _ h => h) (Or.inr ⟨by kernel_rfl, rfl⟩) ?_
          try simp only [Act.put, List.getElem_toArray, List.getElem_cons_succ, List.getElem_cons_zero, List.setIfInBounds_toArray, List.set_cons_zero, List.set_cons_succ]
          refine WD_free (i := 4) (oi := _) (v := undef) rfl (by kernel_rfl) (fun _ _ _ h => h) (Or.inr ⟨by kernel_rfl, rfl⟩) ?_
          try simp only [Act.put, List.getElem_toArray, List.getElem_cons_succ, List.getElem_cons_zero, List.setIfInBounds_toArray, List.set_cons_zero, List.set_cons_succ]
          refine WD_free (i := 5) (oi := _) (v := undef) rfl (by kernel_rfl) (fun _ _ _ h => h) (Or.inr ⟨by kernel_rfl, rfl⟩) ?_
          try simp only [Act.put, List.getElem_toArray, List.getElem_cons_succ, List.getElem_cons_zero, List.setIfInBounds_toArray, List.set_cons_zero, List.set_cons_succ]
          refine WD_free (i := 6) (oi := _) (v := ?_) rfl (by kernel_rfl) (fun _ _ _ h => h) (Or.inl ⟨by rfl, ?_⟩) ?_
          rotate_left
          · (intro W hS; (try dsimp only at hS); clear hS; go_simp; with_reducible rfl)
          try simp only [Act.put, List.getElem_toArray, List.getElem_cons_succ, List.getElem_cons_zero, List.setIfInBounds_toArray, List.set_cons_zero, List.set_cons_succ]
          refine WD_free (i := 7) (oi := _) (v := ?_) rfl (by kernel_rfl) (fun _ _ _ h => h) (Or.inl ⟨by rfl, ?_⟩) ?_
          rotate_left
          · (intro W hS; (try dsimp only at hS); clear hS; go_simp; with_reducible rfl)
          try simp only [Act.put, List.getElem_toArray, List.getElem_cons_succ, List.getElem_cons_zero, List.setIfInBounds_toArray, List.set_cons_zero, List.set_cons_succ]
          refine WD_free (i := 8) (oi := _) (v := undef) rfl (by kernel_rfl) (fun _ _ _ h => h) (Or.inr ⟨by kernel_rfl, rfl⟩) ?_
          try simp only [Act.put, List.getElem_toArray, List.getElem_cons_succ, List.getElem_cons_zero, List.setIfInBounds_toArray, List.set_cons_zero, List.set_cons_succ]
          refine WD_free (i := 9) (oi := _) (v := undef) rfl (by kernel_rfl) (fun _ _ _ h => h) (Or.inr ⟨by kernel_rfl, rfl⟩) ?_
          try simp only [Act.put, List.getElem_toArray, List.getElem_cons_succ, List.getElem_cons_zero, List.setIfInBounds_toArray, List.set_cons_zero, List.set_cons_succ]
          refine WD_free (i := 10) (oi := _) (v := undef) rfl (by kernel_rfl) (fun _ _ _ h => h) (Or.inr ⟨by kernel_rfl, rfl⟩) ?_
          try simp only [Act.put, List.getElem_toArray, List.getElem_cons_succ, List.getElem_cons_zero, List.setIfInBounds_toArray, List.set_cons_zero, List.set_cons_succ]
          refine WD_free (i := 11) (oi := _) (v := undef) rfl (by kernel_rfl) (fun _ _ _ h => h) (Or.inr ⟨by kernel_rfl, rfl⟩) ?_
          try simp only [Act.put, List.getElem_toArray, List.getElem_cons_succ, List.getElem_cons_zero, List.setIfInBounds_toArray, List.set_cons_zero, List.set_cons_succ]
          refine WD_free (i := 12) (oi := _) (v := undef) rfl (by kernel_rfl) (fun _ _ _ h => h) (Or.inr ⟨by kernel_rfl, rfl⟩) ?_
          try simp only [Act.put, List.getElem_toArray, List.getElem_cons_succ, List.getElem_cons_zero, List.setIfInBounds_toArray, List.set_cons_zero, List.set_cons_succ]
          refine WD_free (i := 13) (oi := _) (v := undef) rfl (by kernel_rfl) (fun _ _ _ h => h) (Or.inr ⟨by kernel_rfl, rfl⟩) ?_
          try simp only [Act.put, List.getElem_toArray, List.getElem_cons_succ, List.getElem_cons_zero, List.setIfInBounds_toArray, List.set_cons_zero, List.set_cons_succ]
          refine WD_free (i := 14) (oi := _) (v := undef) rfl (by kernel_rfl) (fun _ _ _ h => h) (Or.inr ⟨by kernel_rfl, rfl⟩) ?_
          try simp only [Act.put, List.getElem_toArray, List.getElem_cons_succ, List.getElem_cons_zero, List.setIfInBounds_toArray, List.set_cons_zero, List.set_cons_succ]
          refine WD_free (i := 15) (oi := _) (v := undef) rfl (by kernel_rfl) (fun _ _ _ h => h) (Or.inr ⟨by kernel_rfl, rfl⟩) ?_
          try simp only [Act.put, List.getElem_toArray, List.getElem_cons_succ, List.getElem_cons_zero, List.setIfInBounds_toArray, List.set_cons_zero, List.set_cons_succ]
          refine WD_free (i := 16) (oi := _) (v := ?_) rfl (by kernel_rfl) (fun _ _ _ h => h) (Or.inl ⟨by rfl, ?_⟩) ?_
          rotate_left
          · (intro W hS; (try dsimp only at hS); clear hS; go_simp; with_reducible rfl)
          try simp only [Act.put, List.getElem_toArray, List.getElem_cons_succ, List.getElem_cons_zero, List.setIfInBounds_toArray, List.set_cons_zero, List.set_cons_succ]
          refine WD_free (i := 17) (oi := _) (v := ?_) rfl (by kernel_rfl) (fun _ _ _ h => h) (Or.inl ⟨by rfl, ?_⟩) ?_
          rotate_left
          · (intro W hS; (try dsimp only at hS); clear hS; go_simp; with_reducible rfl)
          try simp only [Act.put, List.getElem_toArray, List.getElem_cons_succ, List.getElem_cons_zero, List.setIfInBounds_toArray, List.set_cons_zero, List.set_cons_succ]
          refine WD_done (by kernel_rfl) ?_ _
          go_wp2
          go_round
          case rel => exact ⟨I + 1, false, by go_num, rfl, by omega, below_two hbt hHeld, Lib.hid fun e => by cases e⟩
          case measure => simp [intOf]; omega
        case true =>
          by_cases hs : polyE a0 xs = 0
          case neg =>
            have HS := Lib.hid hs
            clear hs
            refine wp_region_D (S := (fun W : World => Below B.heap.size B W)) (fun _ => true) (by kernel_rfl) (Below.refl _ _).drew (fun hHeld => ?_)
            simp only [List.size_toArray, List.length_cons, List.length_nil, Nat.reduceAdd, Array.replicate_succ, Array.replicate_zero, List.push_toArray, List.append_toArray, List.nil_append, List.cons_append]
            refine WD_free (i := 0) (oi := _) (v := ?_) rfl (by kernel_rfl) (fun _ _ _ h => h) (Or.inl ⟨by rfl, ?_⟩) ?_
            rotate_left
            · (intro W hS; (try dsimp only at hS); clear hS; go_simp; with_reducible rfl)
            try simp only [Act.put, List.getElem_toArray, List.getElem_cons_succ, List.getElem_cons_zero, List.setIfInBounds_toArray, List.set_cons_zero, List.set_cons_succ]
            refine WD_free (i := 1) (oi := _) (v := ?_) rfl (by kernel_rfl) (fun _ _ _ h => h) (Or.inl ⟨by rfl, ?_⟩) ?_
            rotate_left
            · (intro W hS; (try dsimp only at hS); clear hS; go_simp; with_reducible rfl)
            try simp only [Act.put, List.getElem_toArray, List.getElem_cons_succ, List.getElem_cons_zero, List.setIfInBounds_toArray, List.set_cons_zero, List.set_cons_succ]
            refine WD_free (i := 2) (oi := _) (v := ?_) rfl (by kernel_rfl) (fun _ _ _ h => h) (Or.inl ⟨by rfl, ?_⟩) ?_
            rotate_left
            · (intro W hS; (try dsimp only at hS); clear hS; go_simp; with_reducible rfl)
            try simp only [Act.put, List.getElem_toArray, List.getElem_cons_succ, List.getElem_cons_zero, List.setIfInBounds_toArray, List.set_cons_zero, List.set_cons_succ]
            refine WD_free (i := 3) (oi := _) (v := ?_) rfl (by kernel_rfl) (fun _ _ _ h => h) (Or.inl ⟨by rfl, ?_⟩) ?_
            rotate_left
            · (intro W hS; (try dsimp only at hS); clear hS; go_simp; with_reducible rfl)
            try simp only [Act.put, List.getElem_toArray, List.getElem_cons_succ, List.getElem_cons_zero, List.setIfInBounds_toArray, List.set_cons_zero, List.set_cons_succ]
            refine WD_step (i := 4) (o := _) rfl (by kernel_rfl) (fun K hK => ?_)
            go_simp
            refine hK.out _ _ (fun _ hS => hS.alloc hS.size _) ?_
            clear hK K
            try simp only [Act.put, List.getElem_toArray, List.getElem_cons_succ, List.getElem_cons_zero, List.setIfInBounds_toArray, List.set_cons_zero, List.set_cons_succ]
            refine WD_step (i := 5) (o := _) rfl (by kernel_rfl) (fun K hK => ?_)
            go_simp
            refine (sound_one' (w := B.drew) false E2.out (by omega) (HR2B.out.below hHeld (Nat.le_refl _)) (by rw [decide_eq_false HS.out])).mono ?_
            rintro e w5 ⟨rfl, hb5'⟩
            go_wp2_with fail
            replace hHeld := below_two hHeld hb5'
            refine hK.out _ _ (fun _ _ => hHeld) ?_
            clear hK K
            try simp only [Act.put, List.getElem_toArray, List.getElem_cons_succ, List.getElem_cons_zero, List.setIfInBounds_toArray, List.set_cons_zero, List.set_cons_succ]
            refine WD_free (i := 6) (oi := _) (v := ?_) rfl (by kernel_rfl) (fun _ _ _ h => h) (Or.inl ⟨by rfl, ?_⟩) ?_
            rotate_left
            · (intro W hS; (try dsimp only at hS); clear hS; go_simp; with_reducible rfl)
            try simp only [Act.put, List.getElem_toArray, List.getElem_cons_succ, List.getElem_cons_zero, List.setIfInBounds_toArray, List.set_cons_zero, List.set_cons_succ]
            refine WD_free (i := 7) (oi := _) (v := ?_) rfl (by kernel_rfl) (fun _ _ _ h => h) (Or.inl ⟨by rfl, ?_⟩) ?_
            rotate_left
            · (intro W hS; (try dsimp only at hS); clear hS; go_simp; with_reducible rfl)
            try simp only [Act.put, List.getElem_toArray, List.getElem_cons_succ, List.getElem_cons_zero, List.setIfInBounds_toArray, List.set_cons_zero, List.set_cons_succ]
            refine WD_free (i := 8) (oi := _) (v := undef) rfl (by kernel_rfl) (fun _ _ _ h => h) (Or.inr ⟨by kernel_rfl, rfl⟩) ?_
            try simp only [Act.put, List.getElem_toArray, List.getElem_cons_succ, List.getElem_cons_zero, List.setIfInBounds_toArray, List.set_cons_zero, List.set_cons_succ]
            refine WD_free (i := 9) (oi := _) (v := undef) rfl (by kernel_rfl) (fun _ _ _ h => h) (Or.inr ⟨by kernel_rfl, rfl⟩) ?_
            try simp only [Act.put, List.getElem_toArray, List.getElem_cons_succ, List.getElem_cons_zero, List.setIfInBounds_toArray, List.set_cons_zero, List.set_cons_succ]
            refine WD_free (i := 10) (oi := _) (v := undef) rfl (by kernel_rfl) (fun _ _ _ h => h) (Or.inr ⟨by kernel_rfl, rfl⟩) ?_
            try simp only [Act.put, List.getElem_toArray, List.getElem_cons_succ, List.getElem_cons_zero, List.setIfInBounds_toArray, List.set_cons_zero, List.set_cons_succ]
            refine WD_free (i := 11) (oi := _) (v := undef) rfl (by kernel_rfl) (fun _ _ _ h => h) (Or.inr ⟨by kernel_rfl, rfl⟩) ?_
            try simp only [Act.put, List.getElem_toArray, List.getElem_cons_succ, List.getElem_cons_zero, List.setIfInBounds_toArray, List.set_cons_zero, List.set_cons_succ]
            refine WD_free (i := 12) (oi := _) (v := undef) rfl (by kernel_rfl) (fun _ _ _ h => h) (Or.inr ⟨by kernel_rfl, rfl⟩) ?_
            try simp only [Act.put, List.getElem_toArray, List.getElem_cons_succ, List.getElem_cons_zero, List.setIfInBounds_toArray, List.set_cons_zero, List.set_cons_succ]
            refine WD_free (i := 13) (oi := _) (v := undef) rfl (by kernel_rfl) (fun _ _ _ h => h) (Or.inr ⟨by kernel_rfl, rfl⟩) ?_
            try simp only [Act.put, List.getElem_toArray, List.getElem_cons_succ, List.getElem_cons_zero, List.setIfInBounds_toArray, List.set_cons_zero, List.set_cons_succ]
            refine WD_free (i := 14) (oi := _) (v := undef) rfl (by kernel_rfl) (fun _ _ _ h => h) (Or.inr ⟨by kernel_rfl, rfl⟩) ?_
            try simp only [Act.put, List.getElem_toArray, List.getElem_cons_succ, List.getElem_cons_zero, List.setIfInBounds_toArray, List.set_cons_zero, List.set_cons_succ]
            refine WD_free (i := 15) (oi := _) (v := undef) rfl (by kernel_rfl) (fun _ _ _ h => h) (Or.inr ⟨by kernel_rfl, rfl⟩) ?_
            try simp only [Act.put, List.getElem_toArray, List.getElem_cons_succ, List.getElem_cons_zero, List.setIfInBounds_toArray, List.set_cons_zero, List.set_cons_succ]
            refine WD_free (i := 16) (oi := _) (v := ?_) rfl (by kernel_rfl) (fun _ _ _ h => h) (Or.inl ⟨by rfl, ?_⟩) ?_
            rotate_left
            · (intro W hS; (try dsimp only at hS); clear hS; go_simp; with_reducible rfl)
            try simp only [Act.put, List.getElem_toArray, List.getElem_cons_succ, List.getElem_cons_zero, List.setIfInBounds_toArray, List.set_cons_zero, List.set_cons_succ]
            refine WD_free (i := 17) (oi := _) (v := ?_) rfl (by kernel_rfl) (fun _ _ _ h => h) (Or.inl ⟨by rfl, ?_⟩) ?_
            rotate_left
            · (intro W hS; (try dsimp only at hS); clear hS; go_simp; with_reducible rfl)
            try simp only [Act.put, List.getElem_toArray, List.getElem_cons_succ, List.getElem_cons_zero, List.setIfInBounds_toArray, List.set_cons_zero, List.set_cons_succ]
            refine WD_done (by kernel_rfl) ?_ _
            go_wp2
            go_round
            case rel => exact ⟨I + 1, false, by go_num, rfl, by omega, below_two hbt hHeld, Lib.hid fun e => by cases e⟩
            case measure => simp [intOf]; omega
          case pos =>
            have HS := Lib.hid hs
            have HG2 := Lib.hid (polyE_zero.1 hs)
            have hl2 : len2 ≤ 13 := by rw [← E2.out]; exact HG2.out.len
            have HVal := Lib.hid fun w' h => ref_Value a0 x a2 cap2 xs w' h E2.out hl2 p1 p2 x1 x2 HG2.out.rng
            obtain ⟨u, hu⟩ : ∃ u, valL a0 xs x = u := ⟨_, rfl⟩
            rw [hu] at HVal
            have HU := Lib.hid hu
            clear hs hu
            by_cases hy : u = y
            case neg =>
              have q1 : (u == y) = false := by simpa using hy
              clear hy
              refine wp_region_D (S := (fun W : World => Below B.heap.size B W)) (fun _ => true) (by kernel_rfl) (Below.refl _ _).drew (fun hHeld => ?_)
              simp only [List.size_toArray, List.length_cons, List.length_nil, Nat.reduceAdd, Array.replicate_succ, Array.replicate_zero, List.push_toArray, List.append_toArray, List.nil_append, List.cons_append]
              refine WD_free (i := 0) (oi := _) (v := ?_) rfl (by kernel_rfl) (fun _ _ _ h => h) (Or.inl ⟨by rfl, ?_⟩) ?_
              rotate_left
              · (intro W hS; (try dsimp only at hS); clear hS; go_simp; with_reducible rfl)
              try simp only [Act.put, List.getElem_toArray, List.getElem_cons_succ, List.getElem_cons_zero, List.setIfInBounds_toArray, List.set_cons_zero, List.set_cons_succ]
              refine WD_free (i := 1) (oi := _) (v := ?_) rfl (by kernel_rfl) (fun _ _ _ h => h) (Or.inl ⟨by rfl, ?_⟩) ?_
              rotate_left
              · (intro W hS; (try dsimp only at hS); clear hS; go_simp; with_reducible rfl)
              try simp only [Act.put, List.getElem_toArray, List.getElem_cons_succ, List.getElem_cons_zero, List.setIfInBounds_toArray, List.set_cons_zero, List.set_cons_succ]
              refine WD_free (i := 2) (oi := _) (v := ?_) rfl (by kernel_rfl) (fun _ _ _ h => h) (Or.inl ⟨by rfl, ?_⟩) ?_
              rotate_left
              · (intro W hS; (try dsimp only at hS); clear hS; go_simp; with_reducible rfl)
              try simp only [Act.put, List.getElem_toArray, List.getElem_cons_succ, List.getElem_cons_zero, List.setIfInBounds_toArray, List.set_cons_zero, List.set_cons_succ]
              refine WD_free (i := 3) (oi := _) (v := ?_) rfl (by kernel_rfl) (fun _ _ _ h => h) (Or.inl ⟨by rfl, ?_⟩) ?_
              rotate_left
              · (intro W hS; (try dsimp only at hS); clear hS; go_simp; with_reducible rfl)
              try simp only [Act.put, List.getElem_toArray, List.getElem_cons_succ, List.getElem_cons_zero, List.setIfInBounds_toArray, List.set_cons_zero, List.set_cons_succ]
              refine WD_step (i := 4) (o := _) rfl (by kernel_rfl) (fun K hK => ?_)
              go_simp
              refine hK.out _ _ (fun _ hS => hS.alloc hS.size _) ?_
              clear hK K
              try simp only [Act.put, List.getElem_toArray, List.getElem_cons_succ, List.getElem_cons_zero, List.setIfInBounds_toArray, List.set_cons_zero, List.set_cons_succ]
              refine WD_step (i := 5) (o := _) rfl (by kernel_rfl) (fun K hK => ?_)
              go_simp
              refine (sound_one' (w := B.drew) true E2.out (by omega) (HR2B.out.below hHeld (Nat.le_refl _)) (by rw [HS.out]; rfl)).mono ?_
              rintro e w5 ⟨rfl, hb5'⟩
              go_wp2_with fail
              replace hHeld := below_two hHeld hb5'
              refine hK.out _ _ (fun _ _ => hHeld) ?_
              clear hK K
              try simp only [Act.put, List.getElem_toArray, List.getElem_cons_succ, List.getElem_cons_zero, List.setIfInBounds_toArray, List.set_cons_zero, List.set_cons_succ]
              refine WD_free (i := 6) (oi := _) (v := ?_) rfl (by kernel_rfl) (fun _ _ _ h => h) (Or.inl ⟨by rfl, ?_⟩) ?_
              rotate_left
              · (intro W hS; (try dsimp only at hS); clear hS; go_simp; with_reducible rfl)
              try simp only [Act.put, List.getElem_toArray, List.getElem_cons_succ, List.getElem_cons_zero, List.setIfInBounds_toArray, List.set_cons_zero, List.set_cons_succ]
              refine WD_free (i := 7) (oi := _) (v := ?_) rfl (by kernel_rfl) (fun _ _ _ h => h) (Or.inl ⟨by rfl, ?_⟩) ?_
              rotate_left
              · (intro W hS; (try dsimp only at hS); clear hS; go_simp; with_reducible rfl)
              try simp only [Act.put, List.getElem_toArray, List.getElem_cons_succ, List.getElem_cons_zero, List.setIfInBounds_toArray, List.set_cons_zero, List.set_cons_succ]
              refine WD_free (i := 8) (oi := _) (v := ?_) rfl (by kernel_rfl) (fun _ _ _ h => h) (Or.inl ⟨by rfl, ?_⟩) ?_
              rotate_left
              · (intro W hS; (try dsimp only at hS); clear hS; go_simp; with_reducible rfl)
              try simp only [Act.put, List.getElem_toArray, List.getElem_cons_succ, List.getElem_cons_zero, List.setIfInBounds_toArray, List.set_cons_zero, List.set_cons_succ]
              refine WD_free (i := 9) (oi := _) (v := ?_) rfl (by kernel_rfl) (fun _ _ _ h => h) (Or.inl ⟨by rfl, ?_⟩) ?_
              rotate_left
              · (intro W hS; (try dsimp only at hS); clear hS; go_simp; with_reducible rfl)
              try simp only [Act.put, List.getElem_toArray, List.getElem_cons_succ, List.getElem_cons_zero, List.setIfInBounds_toArray, List.set_cons_zero, List.set_cons_succ]
              refine WD_free (i := 10) (oi := _) (v := ?_) rfl (by kernel_rfl) (fun _ _ _ h => h) (Or.inl ⟨by rfl, ?_⟩) ?_
              rotate_left
              · (intro W hS; (try dsimp only at hS); clear hS; go_simp; with_reducible rfl)
              try simp only [Act.put, List.getElem_toArray, List.getElem_cons_succ, List.getElem_cons_zero, List.setIfInBounds_toArray, List.set_cons_zero, List.set_cons_succ]
              refine WD_take (i := 11) (oi := _) (v := ?_) rfl (by kernel_rfl) (fun _ _ _ h => h) (Or.inl ⟨by rfl, ?_⟩) (by assumption) ?_
              rotate_left
              · (intro W hS; (try dsimp only at hS); have kk := (hS.cell (p := ⟨wr.heap.size, 0, none⟩) zB2).trans cx; clear hS; go_simp; with_reducible rfl)
              try simp only [Act.put, List.getElem_toArray, List.getElem_cons_succ, List.getElem_cons_zero, List.setIfInBounds_toArray, List.set_cons_zero, List.set_cons_succ]
              refine WD_free (i := 13) (oi := _) (v := ?_) rfl (by kernel_rfl) (fun _ _ _ h => h) (Or.inl ⟨by rfl, ?_⟩) ?_
              rotate_left
              · (intro W hS; (try dsimp only at hS); clear hS; go_simp; with_reducible rfl)
              try simp only [Act.put, List.getElem_toArray, List.getElem_cons_succ, List.getElem_cons_zero, List.setIfInBounds_toArray, List.set_cons_zero, List.set_cons_succ]
              refine WD_take (i := 14) (oi := _) (v := ?_) rfl (by kernel_rfl) (fun _ _ _ h => h) (Or.inl ⟨by rfl, ?_⟩) (by assumption) ?_
              rotate_left
              · (intro W hS; (try dsimp only at hS); have kk := (hS.cell (p := ⟨wr.heap.size, 1, none⟩) zB2).trans cy; clear hS; go_simp; with_reducible rfl)
              try simp only [Act.put, List.getElem_toArray, List.getElem_cons_succ, List.getElem_cons_zero, List.setIfInBounds_toArray, List.set_cons_zero, List.set_cons_succ]
              refine WD_step (i := 12) (o := _) rfl (by kernel_rfl) (fun K hK => ?_)
              go_simp
              refine (HVal.out _ (HR2B.out.below hHeld (Nat.le_refl _))).mono ?_
              rintro e w6 ⟨rfl, hb6'⟩
              go_wp2_with fail
              replace hHeld := below_two hHeld hb6'
              refine hK.out _ _ (fun _ _ => hHeld) ?_
              clear hK K
              try simp only [Act.put, List.getElem_toArray, List.getElem_cons_succ, List.getElem_cons_zero, List.setIfInBounds_toArray, List.set_cons_zero, List.set_cons_succ]
              refine WD_free (i := 15) (oi := _) (v := ?_) rfl (by kernel_rfl) (fun _ _ _ h => h) (Or.inl ⟨by rfl, ?_⟩) ?_
              rotate_left
              · (intro W hS; (try dsimp only at hS); clear hS; go_simp; with_reducible rfl)
              try simp only [Act.put, List.getElem_toArray, List.getElem_cons_succ, List.getElem_cons_zero, List.setIfInBounds_toArray, List.set_cons_zero, List.set_cons_succ]
              refine WD_free (i := 16) (oi := _) (v := ?_) rfl (by kernel_rfl) (fun _ _ _ h => h) (Or.inl ⟨by rfl, ?_⟩) ?_
              rotate_left
              · (intro W hS; (try dsimp only at hS); clear hS; go_simp; with_reducible rfl)
              try simp only [Act.put, List.getElem_toArray, List.getElem_cons_succ, List.getElem_cons_zero, List.setIfInBounds_toArray, List.set_cons_zero, List.set_cons_succ]
              refine WD_free (i := 17) (oi := _) (v := ?_) rfl (by kernel_rfl) (fun _ _ _ h => h) (Or.inl ⟨by rfl, ?_⟩) ?_
              rotate_left
              · (intro W hS; (try dsimp only at hS); clear hS; go_simp; with_reducible rfl)
              try simp only [Act.put, List.getElem_toArray, List.getElem_cons_succ, List.getElem_cons_zero, List.setIfInBounds_toArray, List.set_cons_zero, List.set_cons_succ]
              refine WD_done (by kernel_rfl) ?_ _
              go_wp2
              go_round
              case rel => exact ⟨I + 1, false, by go_num, rfl, by omega, below_two hbt hHeld, Lib.hid fun e => by cases e⟩
              case measure => simp [intOf]; omega
            case pos =>
              subst hy
              have q1 : (u == u) = true := by simp
              refine wp_region_D (S := (fun W : World => Below B.heap.size B W)) (fun _ => true) (by kernel_rfl) (Below.refl _ _).drew (fun hHeld => ?_)
              simp only [List.size_toArray, List.length_cons, List.length_nil, Nat.reduceAdd, Array.replicate_succ, Array.replicate_zero, List.push_toArray, List.append_toArray, List.nil_append, List.cons_append]
              refine WD_free (i := 0) (oi := _) (v := ?_) rfl (by kernel_rfl) (fun _ _ _ h => h) (Or.inl ⟨by rfl, ?_⟩) ?_
              rotate_left
              · (intro W hS; (try dsimp only at hS); clear hS; go_simp; with_reducible rfl)
              try simp only [Act.put, List.getElem_toArray, List.getElem_cons_succ, List.getElem_cons_zero, List.setIfInBounds_toArray, List.set_cons_zero, List.set_cons_succ]
              refine WD_free (i := 1) (oi := _) (v := ?_) rfl (by kernel_rfl) (fun _ _ _ h => h) (Or.inl ⟨by rfl, ?_⟩) ?_
              rotate_left
              · (intro W hS; (try dsimp only at hS); clear hS; go_simp; with_reducible rfl)
              try simp only [Act.put, List.getElem_toArray, List.getElem_cons_succ, List.getElem_cons_zero, List.setIfInBounds_toArray, List.set_cons_zero, List.set_cons_succ]
              refine WD_free (i := 2) (oi := _) (v := ?_) rfl (by kernel_rfl) (fun _ _ _ h => h) (Or.inl ⟨by rfl, ?_⟩) ?_
              rotate_left
              · (intro W hS; (try dsimp only at hS); clear hS; go_simp; with_reducible rfl)
              try simp only [Act.put, List.getElem_toArray, List.getElem_cons_succ, List.getElem_cons_zero, List.setIfInBounds_toArray, List.set_cons_zero, List.set_cons_succ]
              refine WD_free (i := 3) (oi := _) (v := ?_) rfl (by kernel_rfl) (fun _ _ _ h => h) (Or.inl ⟨by rfl, ?_⟩) ?_
              rotate_left
              · (intro W hS; (try dsimp only at hS); clear hS; go_simp; with_reducible rfl)
              try simp only [Act.put, List.getElem_toArray, List.getElem_cons_succ, List.getElem_cons_zero, List.setIfInBounds_toArray, List.set_cons_zero, List.set_cons_succ]
              refine WD_step (i := 4) (o := _) rfl (by kernel_rfl) (fun K hK => ?_)
              go_simp
              refine hK.out _ _ (fun _ hS => hS.alloc hS.size _) ?_
              clear hK K
              try simp only [Act.put, List.getElem_toArray, List.getElem_cons_succ, List.getElem_cons_zero, List.setIfInBounds_toArray, List.set_cons_zero, List.set_cons_succ]
              refine WD_step (i := 5) (o := _) rfl (by kernel_rfl) (fun K hK => ?_)
              go_simp
              refine (sound_one' (w := B.drew) true E2.out (by omega) (HR2B.out.below hHeld (Nat.le_refl _)) (by rw [HS.out]; rfl)).mono ?_
              rintro e w5 ⟨rfl, hb5'⟩
              go_wp2_with fail
              replace hHeld := below_two hHeld hb5'
              refine hK.out _ _ (fun _ _ => hHeld) ?_
              clear hK K
              try simp only [Act.put, List.getElem_toArray, List.getElem_cons_succ, List.getElem_cons_zero, List.setIfInBounds_toArray, List.set_cons_zero, List.set_cons_succ]
              refine WD_free (i := 6) (oi := _) (v := ?_) rfl (by kernel_rfl) (fun _ _ _ h => h) (Or.inl ⟨by rfl, ?_⟩) ?_
              rotate_left
              · (intro W hS; (try dsimp only at hS); clear hS; go_simp; with_reducible rfl)
              try simp only [Act.put, List.getElem_toArray, List.getElem_cons_succ, List.getElem_cons_zero, List.setIfInBounds_toArray, List.set_cons_zero, List.set_cons_succ]
              refine WD_free (i := 7) (oi := _) (v := ?_) rfl (by kernel_rfl) (fun _ _ _ h => h) (Or.inl ⟨by rfl, ?_⟩) ?_
              rotate_left
              · (intro W hS; (try dsimp only at hS); clear hS; go_simp; with_reducible rfl)
              try simp only [Act.put, List.getElem_toArray, List.getElem_cons_succ, List.getElem_cons_zero, List.setIfInBounds_toArray, List.set_cons_zero, List.set_cons_succ]
              refine WD_free (i := 8) (oi := _) (v := ?_) rfl (by kernel_rfl) (fun _ _ _ h => h) (Or.inl ⟨by rfl, ?_⟩) ?_
              rotate_left
              · (intro W hS; (try dsimp only at hS); clear hS; go_simp; with_reducible rfl)
              try simp only [Act.put, List.getElem_toArray, List.getElem_cons_succ, List.getElem_cons_zero, List.setIfInBounds_toArray, List.set_cons_zero, List.set_cons_succ]
              refine WD_free (i := 9) (oi := _) (v := ?_) rfl (by kernel_rfl) (fun _ _ _ h => h) (Or.inl ⟨by rfl, ?_⟩) ?_
              rotate_left
              · (intro W hS; (try dsimp only at hS); clear hS; go_simp; with_reducible rfl)
              try simp only [Act.put, List.getElem_toArray, List.getElem_cons_succ, List.getElem_cons_zero, List.setIfInBounds_toArray, List.set_cons_zero, List.set_cons_succ]
              refine WD_free (i := 10) (oi := _) (v := ?_) rfl (by kernel_rfl) (fun _ _ _ h => h) (Or.inl ⟨by rfl, ?_⟩) ?_
              rotate_left
              · (intro W hS; (try dsimp only at hS); clear hS; go_simp; with_reducible rfl)
              try simp only [Act.put, List.getElem_toArray, List.getElem_cons_succ, List.getElem_cons_zero, List.setIfInBounds_toArray, List.set_cons_zero, List.set_cons_succ]
              refine WD_take (i := 11) (oi := _) (v := ?_) rfl (by kernel_rfl) (fun _ _ _ h => h) (Or.inl ⟨by rfl, ?_⟩) (by assumption) ?_
              rotate_left
              · (intro W hS; (try dsimp only at hS); have kk := (hS.cell (p := ⟨wr.heap.size, 0, none⟩) zB2).trans cx; clear hS; go_simp; with_reducible rfl)
              try simp only [Act.put, List.getElem_toArray, List.getElem_cons_succ, List.getElem_cons_zero, List.setIfInBounds_toArray, List.set_cons_zero, List.set_cons_succ]
              refine WD_free (i := 13) (oi := _) (v := ?_) rfl (by kernel_rfl) (fun _ _ _ h => h) (Or.inl ⟨by rfl, ?_⟩) ?_
              rotate_left
              · (intro W hS; (try dsimp only at hS); clear hS; go_simp; with_reducible rfl)
              try simp only [Act.put, List.getElem_toArray, List.getElem_cons_succ, List.getElem_cons_zero, List.setIfInBounds_toArray, List.set_cons_zero, List.set_cons_succ]
              refine WD_take (i := 14) (oi := _) (v := ?_) rfl (by kernel_rfl) (fun _ _ _ h => h) (Or.inl ⟨by rfl, ?_⟩) (by assumption) ?_
              rotate_left
              · (intro W hS; (try dsimp only at hS); have kk := (hS.cell (p := ⟨wr.heap.size, 1, none⟩) zB2).trans cy; clear hS; go_simp; with_reducible rfl)
              try simp only [Act.put, List.getElem_toArray, List.getElem_cons_succ, List.getElem_cons_zero, List.setIfInBounds_toArray, List.set_cons_zero, List.set_cons_succ]
              refine WD_step (i := 12) (o := _) rfl (by kernel_rfl) (fun K hK => ?_)
              go_simp
              refine (HVal.out _ (HR2B.out.below hHeld (Nat.le_refl _))).mono ?_
              rintro e w6 ⟨rfl, hb6'⟩
              go_wp2_with fail
              replace hHeld := below_two hHeld hb6'
              refine hK.out _ _ (fun _ _ => hHeld) ?_
              clear hK K
              try simp only [Act.put, List.getElem_toArray, List.getElem_cons_succ, List.getElem_cons_zero, List.setIfInBounds_toArray, List.set_cons_zero, List.set_cons_succ]
              refine WD_free (i := 15) (oi := _) (v := ?_) rfl (by kernel_rfl) (fun _ _ _ h => h) (Or.inl ⟨by rfl, ?_⟩) ?_
              rotate_left
              · (intro W hS; (try dsimp only at hS); clear hS; go_simp; with_reducible rfl)
              try simp only [Act.put, List.getElem_toArray, List.getElem_cons_succ, List.getElem_cons_zero, List.setIfInBounds_toArray, List.set_cons_zero, List.set_cons_succ]
              refine WD_free (i := 16) (oi := _) (v := ?_) rfl (by kernel_rfl) (fun _ _ _ h => h) (Or.inl ⟨by rfl, ?_⟩) ?_
              rotate_left
              · (intro W hS; (try dsimp only at hS); clear hS; go_simp; with_reducible rfl)
              try simp only [Act.put, List.getElem_toArray, List.getElem_cons_succ, List.getElem_cons_zero, List.setIfInBounds_toArray, List.set_cons_zero, List.set_cons_succ]
              refine WD_free (i := 17) (oi := _) (v := ?_) rfl (by kernel_rfl) (fun _ _ _ h => h) (Or.inl ⟨by rfl, ?_⟩) ?_
              rotate_left
              · (intro W hS; (try dsimp only at hS); clear hS; go_simp; with_reducible rfl)
              try simp only [Act.put, List.getElem_toArray, List.getElem_cons_succ, List.getElem_cons_zero, List.setIfInBounds_toArray, List.set_cons_zero, List.set_cons_succ]
              refine WD_done (by kernel_rfl) ?_ _
              go_wp2
              go_round
              case rel => exact ⟨I + 1, true, by go_num, rfl, by omega, below_two hbt hHeld, Lib.hid fun _ j v hj hv => by
                by_cases e : j = I
                · subst e; rw [HV.out] at hv; cases hv; exact ⟨HG2.out, HU.out⟩
                · exact HTh.out rfl j v (by omega) hv⟩
              case measure => simp [intOf]; omega
      · obtain rfl : I = len1 := by omega
        have hbw := below_two hb5 hb
        cases Bo
        case false =>
          go_wp2
          go_ret
          exact ⟨rfl, hbw⟩
        case true =>
          go_wp2_with fail
          by_cases hs : polyE a0 xs = 0
          case neg =>
            refine (sound_one' false E2.out (by omega) (HR23.out.below hb (Nat.le_refl _)) (by rw [decide_eq_false hs])).mono ?_
            rintro e w5 ⟨rfl, hb6⟩
            go_wp2
            go_ret
            exact ⟨rfl, below_two hbw hb6⟩
          case pos =>
            have HG2 := Lib.hid (polyE_zero.1 hs)
            refine (sound_one' true E2.out (by omega) (HR23.out.below hb (Nat.le_refl _)) (by rw [decide_eq_true hs])).mono ?_
            rintro e w5 ⟨rfl, hb6⟩
            have hl2 : len2 ≤ 13 := by rw [← E2.out]; exact HG2.out.len
            clear hs
            by_cases hgt : I < len2
            case pos =>
              go_wp2
              go_ret
              exact ⟨rfl, below_two hbw hb6⟩
            case neg =>
              have heq := one_law HW.out HPo.out HG2.out (by rw [E1.out, E2.out]; omega) (by rw [E1.out]; exact HTh.out)
              have hnn : nA = len2 := by rw [← HNA.out, ← heq, E2.out]
              have HL := Lib.hid (longs_same heq E2.out (by omega) ((HR23.out.below hb (Nat.le_refl _)).below hb6 (Nat.le_refl _)) ((HA3.out.below hb (Nat.le_refl _)).below hb6 (Nat.le_refl _)))
              subst hnn
              clear heq
              go_wp2_with fail
              refine HL.out.mono ?_
              rintro e w7 ⟨rfl, hb7⟩
              go_wp2
              go_ret
              exact ⟨rfl, below_two (below_two hbw hb6) hb7⟩
  · have HT := Lib.hid (poly_Through_bad a0 a1 cap1 z1 w h1 e1 m1 hw)
    obtain ⟨t2, ht2⟩ : ∃ t, wrongE a0 z1 = t := ⟨_, rfl⟩
    rw [ht2] at HPC hw
    have q3 : (t2 == 0) = false := by simpa using hw
    have q4 : (t2 != 0) = true := by simpa using hw
    clear h1 h2 e1 e2 hw ht2
    go_enter Try.func7, Try.ntmps7
    go_wp2_with fail
    refine HT.out.mono ?_
    rintro e w1 ⟨⟨t, ht, rfl⟩, hb1⟩
    have q1 : (t == 0) = false := by simpa using ht
    have q2 : (t != 0) = true := by simpa using ht
    clear ht
    go_wp2_with fail
    refine (HPC.out _ (HR1.out.below hb1 (Nat.le_refl _))).mono ?_
    rintro e w2 ⟨rfl, hb2⟩
    go_wp2
    go_ret
    exact ⟨rfl, below_two hb1 hb2⟩
end Go.Proofs.Ytfgmnlphejpcaaa
