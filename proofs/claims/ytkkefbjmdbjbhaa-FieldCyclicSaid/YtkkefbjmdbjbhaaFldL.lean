/- The contract of lockwrightref.left (printed by gen/wfldr.py). -/
import Derived.Test.YtkkefbjmdbjbhaaFldR
namespace Go.Proofs.Ytkkefbjmdbjbhaa
open Go.RowKit
set_option linter.unusedVariables false
set_option linter.unusedSimpArgs false
set_option maxRecDepth 100000 in
set_option maxHeartbeats 6400000 in
theorem ref_left (p : Int) (a b : List Int) (aa ba : Option Addr) (ca cb La Lb : Nat) (w : World) (h2 : 2 ≤ p) (h3 : p ≤ 251) (hpr : prB p = true) (ha : ∀ x ∈ a, 0 ≤ x ∧ x < p) (hb : Pl p b) (hLa : a.length = La) (hLb : b.length = Lb) (a0 : 0 < La) (b0 : 0 < Lb) (la : La ≤ 400) (lb : Lb ≤ 400) (hra : RowL w aa ca a) (hrb : RowL w ba cb b) :
    Calls Try.prog 37 #[.int .i64 p, .slice aa La ca, .slice ba Lb cb] w fun e w' => (∃ (a' : Option Addr) (N c' : Nat), e = .returned (.slice a' N c') ∧ (N = 0 ↔ DvP p b a)) ∧ Below w.heap.size w w' := by
  obtain ⟨i0, hi, hz0, hz1, hz2⟩ := info_parts long_info
  have hu : Try.prog.underlying 22 = some (.slice 2) := by kernel_rfl
  obtain ⟨ab, ao, rfl, hca⟩ := hra.shape (by omega)
  obtain ⟨bb, ob, rfl, hcb⟩ := hrb.shape (by omega)
  obtain ⟨lw, hlw⟩ : ∃ x, b[Lb - 1]? = some x := ⟨_, List.getElem?_eq_getElem (by omega)⟩
  have hly := last_co (show b.length = Lb - 1 + 1 by omega) hlw
  obtain ⟨l1, l2⟩ := hb.lead (by omega) (by omega)
  rw [hLb, hly] at l1 l2
  have HINV := Lib.hid (invE_ok hpr h2 l1 l2)
  have HINVC := Lib.hid fun w => ref_inverse lw p w h2 h3
  obtain ⟨y, hy⟩ : ∃ y, invE lw p = y := ⟨_, rfl⟩
  have hy1 : 0 ≤ y ∧ y < p := by rw [← hy]; exact ⟨Int.emod_nonneg _ (by omega), Int.emod_lt_of_pos _ (by omega)⟩
  obtain ⟨y1, y2⟩ := hy1
  rw [hy] at HINV HINVC
  have HI0 : Hid (LInv p a b a La) := Lib.hid (hLa ▸ LInv.init ha)
  have HST := Lib.hid fun (R : List Int) (K : Nat) (k : Int) (h : LInv p a b R K) (h4 : Lb ≤ K) (h5 : K ≤ La) (h6 : k = co R (K - 1) * y % p) => hLa ▸ h.step (by omega) hLb b0 h4 (hLa ▸ h5) (y := y) (by rw [hly]; exact HINV.out) h6
  have HFI := Lib.hid fun (R : List Int) (K : Nat) (h : LInv p a b R K) (h4 : K < Lb) => h.fin hpr h2 hb (by omega) (by omega)
  have HPS := Lib.hid fun (R : List Int) (k : Int) (up N I : Nat) (h : I + up < N) => plusTo_set p R b (-k) up N I h
  have HPG := Lib.hid fun (R : List Int) (k : Int) (up N I i : Nat) (h : i < N) => plusTo_get p R b (-k) up N I i h
  have HPL := Lib.hid fun (R : List Int) (k : Int) (up N I : Nat) => plusTo_len p R b (-k) up N I
  have HRA := Lib.hid hra
  have HRB := Lib.hid hrb
  have HA := Lib.hid hLa
  have HBL := Lib.hid hLb
  have HLW := Lib.hid hlw
  have HBR := Lib.hid hb.rng
  clear hra hrb hca hcb hy hLa hLb hlw hly hb ha hpr
  have hB0 : Below w.heap.size w (w.alloc (.cells #[] 2)) := (Below.refl _ _).alloc (Nat.le_refl _) _
  go_enter Try.func37, Try.ntmps37
  go_wp2_with (first
    | (at_builtin; refine wpList_append_grows _ rfl _ _ 22 rfl 2 i0 (.int .i64 0) 1 8 hu hi hz0 hz1 hz2 rfl (by decide) (some ⟨w.heap.size, 0, none⟩) 0 0 [] rfl (fun e => by cases e) rfl (fun b e j u hj => by simp at hj) ⟨ab, ao, none⟩ La ca (inV a) rfl (by rw [inV_len, Nat.mul_one]; exact HA.out) ((HRA.out.below hB0 (Nat.le_refl _)).2.1 _ rfl) (inV_one a) (by omega) (by unfold maxLen; omega) (by omega) ?_
       intro v1 w1 hown1 hg1
       have hb1 : Below w.heap.size w w1 := hB0.grown hg1 (by simp) (fun j hj => by cases hj)
       have hown2 : w1.ownsRow w.heap.size 2 1 v1 La (inV a) := own_lower (by simpa using hown1) (by simp)
       clear hown1 hg1 hB0
       obtain ⟨g, cap, rfl, g1, g2, g3, g4⟩ := own_shape hown2 a0
       replace g4 := Lib.hid g4)
    | fail)
  go_loopw [8] (fun iv wr => ∃ (K : Nat) (R : List Int), iv = .int .i64 ((K : Int) - 1) ∧ K ≤ La ∧ Hid (LInv p a b R K) ∧ wr.ownsRow w.heap.size 2 1 (.slice (some ⟨g, 0, none⟩) La cap) La (inV R) ∧ Below w.heap.size w wr) (fun iv _ => (intOf iv + 1).toNat)
  case atStart => exact ⟨La, a, rfl, Nat.le_refl _, HI0, hown2, hb1⟩
  case round =>
    obtain ⟨K, R, rfl, hK, HL, hr, hbw⟩ := hrel
    clear hown2 hb1 g2
    have HRL : Hid (R.length = La) := Lib.hid (HL.out.len.trans HA.out)
    by_cases hlt : Lb ≤ K
    · obtain ⟨x, hx⟩ : ∃ x, R[K - 1]? = some x := ⟨_, List.getElem?_eq_getElem (by rw [HRL.out]; omega)⟩
      have hxr := HL.out.rng x (List.mem_of_getElem? hx)
      have hcx : co R (K - 1) = x := by unfold co; rw [List.getD_eq_getElem?_getD, hx]; rfl
      have HAT := Lib.hid fun q => ref_at (some ⟨g, 0, none⟩) cap La R (K - 1) x (wr.drewN q) ((row_ownL hr).below (below_drewN (Below.refl _ _) q) (Nat.le_refl _)) HRL.out hx (by omega)
      have kl := ((HRB.out.below hbw (Nat.le_refl _)).2.1 _ rfl (Lb - 1) (.int .i64 lw) (by rw [inV, List.getElem?_map, HLW.out]; rfl))
      rw [Addr.add_lit] at kl
      have HS1 := Lib.hid (HST.out R K (x * y % p) HL.out hlt hK (by rw [hcx]))
      have m0 := Int.mul_nonneg hxr.1 y1
      have m1 : x * y ≤ 250 * 250 := Int.mul_le_mul (by omega) (by omega) y1 (by omega)
      have m2 : (x * y).tmod p = x * y % p := Int.tmod_eq_emod_of_nonneg m0
      have k1 := Int.emod_nonneg (x * y) (show p ≠ 0 by omega)
      have k2 := Int.emod_lt_of_pos (x * y) (show 0 < p by omega)
      have m3 : (p == 0) = false := by simp; omega
      obtain ⟨K1, rfl⟩ : ∃ K1, K = K1 + 1 := ⟨K - 1, by omega⟩
      rw [Nat.add_sub_cancel] at HAT HS1
      rw [show (((K1 + 1 : Nat) : Int) - 1) = (K1 : Int) by omega]
      clear hx hcx
      go_wp2_with fail
      go_quiet ((first | (go_at_call 46; exact quiet_same (HAT.out _)) | (go_at_call 47; exact quiet_same (HINVC.out _))))
      go_wp2
      obtain ⟨k, hk⟩ : ∃ k, x * y % p = k := ⟨_, rfl⟩
      rw [hk] at HS1 k1 k2 ⊢
      obtain ⟨up, hup⟩ : ∃ up, K1 + 1 - Lb = up := ⟨_, rfl⟩
      rw [hup] at HS1
      have hup2 : up + Lb = K1 + 1 := by omega
      have HP0 : Hid (plusTo p R b (-k) up La 0 = R) := Lib.hid (by
        refine List.ext_getElem? fun i => ?_
        by_cases hi : i < La
        · rw [HPG.out _ _ _ _ _ _ hi, if_neg (by omega), List.getD_eq_getElem?_getD, List.getElem?_eq_getElem (by rw [HRL.out]; exact hi)]; rfl
        · rw [List.getElem?_eq_none (by rw [HPL.out]; omega), List.getElem?_eq_none (by rw [HRL.out]; omega)])
      have HRR := Lib.hid HL.out.rng
      replace HPS := Lib.hid (HPS.out R k up La)
      replace HPG := Lib.hid (HPG.out R k up La)
      replace HPL := Lib.hid (HPL.out R k up La)
      rw [show decide ((Lb : Int) - 1 ≤ (K1 : Int)) = true from decide_eq_true (by omega)]
      go_loopw [10] (fun jv wq => ∃ J : Nat, jv = .int .i64 J ∧ J ≤ Lb ∧ wq.ownsRow w.heap.size 2 1 (.slice (some ⟨g, 0, none⟩) La cap) La (inV (plusTo p R b (-k) up La J)) ∧ Below w.heap.size w wq) (fun jv _ => (Lb - intOf jv).toNat)
      case atStart => exact ⟨0, rfl, Nat.zero_le _, by rw [HP0.out]; exact own_keep hr (below_drewN (Below.refl _ _) _), below_drewN hbw _⟩
      case round =>
        clear HST HFI HI0 HAT HINV HINVC m0 m1 m2 kl HP0 hr hbw hxr
        obtain ⟨J, rfl, hJ, hr, hbw⟩ := hrel
        by_cases hlt2 : J < Lb
        · obtain ⟨z, hz⟩ : ∃ z, b[J]? = some z := ⟨_, List.getElem?_eq_getElem (by rw [HBL.out]; exact hlt2)⟩
          have hzr := HBR.out z (List.mem_of_getElem? hz)
          have kb := ((HRB.out.below hbw (Nat.le_refl _)).2.1 _ rfl J (.int .i64 z) (by rw [inV, List.getElem?_map, hz]; rfl))
          rw [Addr.add_lit] at kb
          obtain ⟨u, hu2⟩ : ∃ u, R[up + J]? = some u := ⟨_, List.getElem?_eq_getElem (by rw [HRL.out]; omega)⟩
          have hur := HRR.out u (List.mem_of_getElem? hu2)
          have kR : (inV (plusTo p R b (-k) up La J))[up + J]? = some (.int .i64 u) := by
            rw [inV, List.getElem?_map, HPG.out J (up + J) (by omega), if_neg (by omega), List.getD_eq_getElem?_getD, hu2]; rfl
          have HSET := Lib.hid (HPS.out J (by omega))
          rw [Nat.add_comm J up, List.getD_eq_getElem?_getD, hu2, List.getD_eq_getElem?_getD, hz, Option.getD_some, Option.getD_some, Int.neg_mul, ← Int.sub_eq_add_neg] at HSET
          have n0 := Int.mul_nonneg k1 hzr.1
          have n1 : k * z ≤ 250 * 250 := Int.mul_le_mul (by omega) (by omega) hzr.1 (by omega)
          have HMD := Lib.hid fun w => ref_Mod (u - k * z) p w (by omega) (by omega)
          obtain ⟨v, hv⟩ : ∃ v, (u - k * z) % p = v := ⟨_, rfl⟩
          rw [hv] at HMD HSET
          have e1 : IntKind.i64.wrap ((K1 : Int) - Lb) = (K1 : Int) - Lb := IntWalk.i64_in _ (by omega)
          have e2 : IntKind.i64.wrap ((K1 : Int) - Lb + 1) = (up : Int) := by rw [show (K1 : Int) - Lb + 1 = (up : Int) by omega]; exact IntWalk.i64_in _ (by omega)
          have e3 : IntKind.i64.wrap ((up : Int) + J) = (up : Int) + J := IntWalk.i64_in _ (by omega)
          have e4 : IntKind.i64.wrap (k * z) = k * z := IntWalk.i64_in _ (by omega)
          have e5 : IntKind.i64.wrap (u - k * z) = u - k * z := IntWalk.i64_in _ (by omega)
          have i1 : (0 : Int) ≤ (up : Int) + J := by omega
          have i2 : (up : Int) + J < La := by omega
          have i3 : (0 : Int) ≤ (J : Int) := by omega
          have i4 : (J : Int) < Lb := by omega
          have i5 : ((up : Int) + J).toNat = up + J := by omega
          clear hz hu2 HPS HPG HPL HRR HBR hv
          obtain ⟨PJ, hPJ⟩ : ∃ PJ, plusTo p R b (-k) up La J = PJ := ⟨_, rfl⟩
          rw [hPJ] at hr kR HSET
          clear hPJ
          go_wp2_with fail
          refine wp_region_D (S := (fun W : World => Below wr.heap.size wr W)) (fun i => i != 28) (by kernel_rfl) (Below.refl _ _).drew (fun hHeld => ?_)
          simp only [List.size_toArray, List.length_cons, List.length_nil, Nat.reduceAdd, Array.replicate_succ, Array.replicate_zero, List.push_toArray, List.append_toArray, List.nil_append, List.cons_append]
          refine WD_free (i := 0) (oi := _) (v := ?_) rfl (by kernel_rfl) (fun _ _ _ h => h) (Or.inl ⟨by rfl, ?_⟩) ?_
          rotate_left
          · (intro W hS; (try dsimp only at hS); clear hS; go_simp; with_reducible rfl)
          try simp only [Act.put, List.getElem_toArray, List.getElem_cons_succ, List.getElem_cons_zero, List.setIfInBounds_toArray, List.set_cons_zero, List.set_cons_succ]
          refine WD_free (i := 1) (oi := _) (v := ?_) rfl (by kernel_rfl) (fun _ _ _ h => h) (Or.inl ⟨by rfl, ?_⟩) ?_
          rotate_left
          · (intro W hS; (try dsimp only at hS); clear hS; go_simp; with_reducible rfl)
          try simp only [Act.put, List.getElem_toArray, List.getElem_cons_succ, List.getElem_cons_zero, List.setIfInBounds_toArray, List.set_cons_zero, List.set_cons_succ]
          refine WD_free (i := 2) (oi := _) (v := ?_) rfl (by kernel_rfl) (fun _ _ _ h => h) (Or.inl ⟨by rfl, ?_⟩) ?_
          rotate_left
          · (intro W hS; (try dsimp only at hS); clear hS; go_simp; with_reducible rfl)
          try simp only [Act.put, List.getElem_toArray, List.getElem_cons_succ, List.getElem_cons_zero, List.setIfInBounds_toArray, List.set_cons_zero, List.set_cons_succ]
          refine WD_free (i := 3) (oi := _) (v := ?_) rfl (by kernel_rfl) (fun _ _ _ h => h) (Or.inl ⟨by rfl, ?_⟩) ?_
          rotate_left
          · (intro W hS; (try dsimp only at hS); clear hS; go_simp; with_reducible rfl)
          try simp only [Act.put, List.getElem_toArray, List.getElem_cons_succ, List.getElem_cons_zero, List.setIfInBounds_toArray, List.set_cons_zero, List.set_cons_succ]
          refine WD_free (i := 4) (oi := _) (v := ?_) rfl (by kernel_rfl) (fun _ _ _ h => h) (Or.inl ⟨by rfl, ?_⟩) ?_
          rotate_left
          · (intro W hS; (try dsimp only at hS); clear hS; go_simp; with_reducible rfl)
          try simp only [Act.put, List.getElem_toArray, List.getElem_cons_succ, List.getElem_cons_zero, List.setIfInBounds_toArray, List.set_cons_zero, List.set_cons_succ]
          refine WD_free (i := 5) (oi := _) (v := ?_) rfl (by kernel_rfl) (fun _ _ _ h => h) (Or.inl ⟨by rfl, ?_⟩) ?_
          rotate_left
          · (intro W hS; (try dsimp only at hS); clear hS; go_simp; with_reducible rfl)
          try simp only [Act.put, List.getElem_toArray, List.getElem_cons_succ, List.getElem_cons_zero, List.setIfInBounds_toArray, List.set_cons_zero, List.set_cons_succ]
          refine WD_free (i := 6) (oi := _) (v := ?_) rfl (by kernel_rfl) (fun _ _ _ h => h) (Or.inl ⟨by rfl, ?_⟩) ?_
          rotate_left
          · (intro W hS; (try dsimp only at hS); clear hS; go_simp; with_reducible rfl)
          try simp only [Act.put, List.getElem_toArray, List.getElem_cons_succ, List.getElem_cons_zero, List.setIfInBounds_toArray, List.set_cons_zero, List.set_cons_succ]
          refine WD_free (i := 7) (oi := _) (v := ?_) rfl (by kernel_rfl) (fun _ _ _ h => h) (Or.inl ⟨by rfl, ?_⟩) ?_
          rotate_left
          · (intro W hS; (try dsimp only at hS); clear hS; go_simp; with_reducible rfl)
          try simp only [Act.put, List.getElem_toArray, List.getElem_cons_succ, List.getElem_cons_zero, List.setIfInBounds_toArray, List.set_cons_zero, List.set_cons_succ]
          refine WD_free (i := 8) (oi := _) (v := ?_) rfl (by kernel_rfl) (fun _ _ _ h => h) (Or.inl ⟨by rfl, ?_⟩) ?_
          rotate_left
          · (intro W hS; (try dsimp only at hS); clear hS; go_simp; with_reducible rfl)
          try simp only [Act.put, List.getElem_toArray, List.getElem_cons_succ, List.getElem_cons_zero, List.setIfInBounds_toArray, List.set_cons_zero, List.set_cons_succ]
          refine WD_free (i := 9) (oi := _) (v := ?_) rfl (by kernel_rfl) (fun _ _ _ h => h) (Or.inl ⟨by rfl, ?_⟩) ?_
          rotate_left
          · (intro W hS; (try dsimp only at hS); clear hS; go_simp; with_reducible rfl)
          try simp only [Act.put, List.getElem_toArray, List.getElem_cons_succ, List.getElem_cons_zero, List.setIfInBounds_toArray, List.set_cons_zero, List.set_cons_succ]
          refine WD_free (i := 10) (oi := _) (v := ?_) rfl (by kernel_rfl) (fun _ _ _ h => h) (Or.inl ⟨by rfl, ?_⟩) ?_
          rotate_left
          · (intro W hS; (try dsimp only at hS); clear hS; go_simp; with_reducible rfl)
          try simp only [Act.put, List.getElem_toArray, List.getElem_cons_succ, List.getElem_cons_zero, List.setIfInBounds_toArray, List.set_cons_zero, List.set_cons_succ]
          refine WD_free (i := 11) (oi := _) (v := ?_) rfl (by kernel_rfl) (fun _ _ _ h => h) (Or.inl ⟨by rfl, ?_⟩) ?_
          rotate_left
          · (intro W hS; (try dsimp only at hS); clear hS; go_simp; with_reducible rfl)
          try simp only [Act.put, List.getElem_toArray, List.getElem_cons_succ, List.getElem_cons_zero, List.setIfInBounds_toArray, List.set_cons_zero, List.set_cons_succ]
          refine WD_free (i := 12) (oi := _) (v := ?_) rfl (by kernel_rfl) (fun _ _ _ h => h) (Or.inl ⟨by rfl, ?_⟩) ?_
          rotate_left
          · (intro W hS; (try dsimp only at hS); clear hS; go_simp; with_reducible rfl)
          try simp only [Act.put, List.getElem_toArray, List.getElem_cons_succ, List.getElem_cons_zero, List.setIfInBounds_toArray, List.set_cons_zero, List.set_cons_succ]
          refine WD_free (i := 13) (oi := _) (v := ?_) rfl (by kernel_rfl) (fun _ _ _ h => h) (Or.inl ⟨by rfl, ?_⟩) ?_
          rotate_left
          · (intro W hS; (try dsimp only at hS); clear hS; go_simp; with_reducible rfl)
          try simp only [Act.put, List.getElem_toArray, List.getElem_cons_succ, List.getElem_cons_zero, List.setIfInBounds_toArray, List.set_cons_zero, List.set_cons_succ]
          refine WD_free (i := 14) (oi := _) (v := ?_) rfl (by kernel_rfl) (fun _ _ _ h => h) (Or.inl ⟨by rfl, ?_⟩) ?_
          rotate_left
          · (intro W hS; (try dsimp only at hS); clear hS; go_simp; with_reducible rfl)
          try simp only [Act.put, List.getElem_toArray, List.getElem_cons_succ, List.getElem_cons_zero, List.setIfInBounds_toArray, List.set_cons_zero, List.set_cons_succ]
          refine WD_free (i := 15) (oi := _) (v := ?_) rfl (by kernel_rfl) (fun _ _ _ h => h) (Or.inl ⟨by rfl, ?_⟩) ?_
          rotate_left
          · (intro W hS; (try dsimp only at hS); clear hS; go_simp; with_reducible rfl)
          try simp only [Act.put, List.getElem_toArray, List.getElem_cons_succ, List.getElem_cons_zero, List.setIfInBounds_toArray, List.set_cons_zero, List.set_cons_succ]
          refine WD_take (i := 16) (oi := _) (v := ?_) rfl (by kernel_rfl) (fun _ _ _ h => h) (Or.inl ⟨by rfl, ?_⟩) (by assumption) ?_
          rotate_left
          · (intro W hS; (try dsimp only at hS); have q0 := own_cell (own_keep hr hS) kR; clear hS; go_simp; with_reducible rfl)
          try simp only [Act.put, List.getElem_toArray, List.getElem_cons_succ, List.getElem_cons_zero, List.setIfInBounds_toArray, List.set_cons_zero, List.set_cons_succ]
          refine WD_take (i := 17) (oi := _) (v := ?_) rfl (by kernel_rfl) (fun _ _ _ h => h) (Or.inl ⟨by rfl, ?_⟩) (by assumption) ?_
          rotate_left
          · (intro W hS; (try dsimp only at hS); have q0 := own_cell (own_keep hr hS) kR; clear hS; go_simp; with_reducible rfl)
          try simp only [Act.put, List.getElem_toArray, List.getElem_cons_succ, List.getElem_cons_zero, List.setIfInBounds_toArray, List.set_cons_zero, List.set_cons_succ]
          refine WD_free (i := 18) (oi := _) (v := ?_) rfl (by kernel_rfl) (fun _ _ _ h => h) (Or.inl ⟨by rfl, ?_⟩) ?_
          rotate_left
          · (intro W hS; (try dsimp only at hS); clear hS; go_simp; with_reducible rfl)
          try simp only [Act.put, List.getElem_toArray, List.getElem_cons_succ, List.getElem_cons_zero, List.setIfInBounds_toArray, List.set_cons_zero, List.set_cons_succ]
          refine WD_free (i := 19) (oi := _) (v := ?_) rfl (by kernel_rfl) (fun _ _ _ h => h) (Or.inl ⟨by rfl, ?_⟩) ?_
          rotate_left
          · (intro W hS; (try dsimp only at hS); clear hS; go_simp; with_reducible rfl)
          try simp only [Act.put, List.getElem_toArray, List.getElem_cons_succ, List.getElem_cons_zero, List.setIfInBounds_toArray, List.set_cons_zero, List.set_cons_succ]
          refine WD_free (i := 20) (oi := _) (v := ?_) rfl (by kernel_rfl) (fun _ _ _ h => h) (Or.inl ⟨by rfl, ?_⟩) ?_
          rotate_left
          · (intro W hS; (try dsimp only at hS); clear hS; go_simp; with_reducible rfl)
          try simp only [Act.put, List.getElem_toArray, List.getElem_cons_succ, List.getElem_cons_zero, List.setIfInBounds_toArray, List.set_cons_zero, List.set_cons_succ]
          refine WD_take (i := 21) (oi := _) (v := ?_) rfl (by kernel_rfl) (fun _ _ _ h => h) (Or.inl ⟨by rfl, ?_⟩) (by assumption) ?_
          rotate_left
          · (intro W hS; (try dsimp only at hS); have q1 := (hS.cell (p := ⟨bb, ob + J, none⟩) (World.block_lt_of_cell? _ _ kb)).trans kb; clear hS; go_simp; with_reducible rfl)
          try simp only [Act.put, List.getElem_toArray, List.getElem_cons_succ, List.getElem_cons_zero, List.setIfInBounds_toArray, List.set_cons_zero, List.set_cons_succ]
          refine WD_take (i := 22) (oi := _) (v := ?_) rfl (by kernel_rfl) (fun _ _ _ h => h) (Or.inl ⟨by rfl, ?_⟩) (by assumption) ?_
          rotate_left
          · (intro W hS; (try dsimp only at hS); have q1 := (hS.cell (p := ⟨bb, ob + J, none⟩) (World.block_lt_of_cell? _ _ kb)).trans kb; clear hS; go_simp; with_reducible rfl)
          try simp only [Act.put, List.getElem_toArray, List.getElem_cons_succ, List.getElem_cons_zero, List.setIfInBounds_toArray, List.set_cons_zero, List.set_cons_succ]
          refine WD_free (i := 23) (oi := _) (v := ?_) rfl (by kernel_rfl) (fun _ _ _ h => h) (Or.inl ⟨by rfl, ?_⟩) ?_
          rotate_left
          · (intro W hS; (try dsimp only at hS); clear hS; go_simp; with_reducible rfl)
          try simp only [Act.put, List.getElem_toArray, List.getElem_cons_succ, List.getElem_cons_zero, List.setIfInBounds_toArray, List.set_cons_zero, List.set_cons_succ]
          refine WD_free (i := 24) (oi := _) (v := ?_) rfl (by kernel_rfl) (fun _ _ _ h => h) (Or.inl ⟨by rfl, ?_⟩) ?_
          rotate_left
          · (intro W hS; (try dsimp only at hS); clear hS; go_simp; with_reducible rfl)
          try simp only [Act.put, List.getElem_toArray, List.getElem_cons_succ, List.getElem_cons_zero, List.setIfInBounds_toArray, List.set_cons_zero, List.set_cons_succ]
          refine WD_free (i := 25) (oi := _) (v := ?_) rfl (by kernel_rfl) (fun _ _ _ h => h) (Or.inl ⟨by rfl, ?_⟩) ?_
          rotate_left
          · (intro W hS; (try dsimp only at hS); clear hS; go_simp; with_reducible rfl)
          try simp only [Act.put, List.getElem_toArray, List.getElem_cons_succ, List.getElem_cons_zero, List.setIfInBounds_toArray, List.set_cons_zero, List.set_cons_succ]
          refine WD_step (i := 26) (o := _) rfl (by kernel_rfl) (fun K hK => ?_)
          go_simp
          refine (HMD.out _).mono ?_
          rintro e w5 ⟨rfl, rfl⟩
          go_wp2_with fail
          replace hHeld := hHeld
          refine hK.out _ _ (fun _ _ => hHeld) ?_
          clear hK K
          try simp only [Act.put, List.getElem_toArray, List.getElem_cons_succ, List.getElem_cons_zero, List.setIfInBounds_toArray, List.set_cons_zero, List.set_cons_succ]
          refine WD_take (i := 27) (oi := _) (v := ?_) rfl (by kernel_rfl) (fun _ _ _ h => h) (Or.inl ⟨by rfl, ?_⟩) (by assumption) ?_
          rotate_left
          · (intro W hS; (try dsimp only at hS); have q0 := own_cell (own_keep hr hS) kR; clear hS; go_simp; with_reducible rfl)
          try simp only [Act.put, List.getElem_toArray, List.getElem_cons_succ, List.getElem_cons_zero, List.setIfInBounds_toArray, List.set_cons_zero, List.set_cons_succ]
          refine WD_step (i := 28) (o := _) rfl (by kernel_rfl) (fun K hK => ?_)
          have f0 := own_frozen (own_keep hr hHeld) (up + J)
          have q0 := own_cell (own_keep hr hHeld) kR
          go_simp
          refine hK.out _ _ (fun h => by cases h) ?_
          clear hK K
          try simp only [Act.put, List.getElem_toArray, List.getElem_cons_succ, List.getElem_cons_zero, List.setIfInBounds_toArray, List.set_cons_zero, List.set_cons_succ]
          refine WD_done (by kernel_rfl) ?_ _
          have hr9 := own_set (own_keep hr hHeld) (show up + J < La by omega) (.int .i64 v)
          rw [← inV_set, HSET.out] at hr9
          have hb9 := (hbw.trans (hHeld.mono hbw.size)).setCell (show w.heap.size ≤ (⟨g, up + J, none⟩ : Addr).block from g1) (.int .i64 v)
          clear hHeld kR hr hbw
          go_wp2
          go_roundw
          case rel => exact ⟨J + 1, by go_num, hlt2, hr9, hb9⟩
          case measure => simp [intOf]; omega
        · obtain rfl : J = Lb := by omega
          clear HPS HPG HPL HRR HBR
          go_wp2
          go_roundw
          case rel => exact ⟨K1, _, by go_num, by omega, HS1, hr, hbw⟩
          case measure => simp [intOf]
    · have HE := Lib.hid (HFI.out R K HL.out (by omega))
      have HTR := Lib.hid (ref_trimmed (some ⟨g, 0, none⟩) cap La R wr (row_ownL hr) HRL.out (by omega) g4.out)
      obtain ⟨N, hN⟩ : ∃ N, (trimL R).length = N := ⟨_, rfl⟩
      rw [hN] at HE HTR
      clear hN
      go_wp2_with fail
      refine HTR.out.mono ?_
      rintro e w5 ⟨rfl, rfl⟩
      go_wp2
      go_ret
      exact ⟨⟨_, _, _, rfl, HE.out⟩, hbw⟩
end Go.Proofs.Ytkkefbjmdbjbhaa
