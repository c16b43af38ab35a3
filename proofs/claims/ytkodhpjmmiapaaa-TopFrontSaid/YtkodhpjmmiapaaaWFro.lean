/- TopFront. -/
import Derived.Test.YtkodhpjmmiapaaaSqF
namespace Go.Proofs.Ytkodhpjmmiapaaa
open Go.RowKit
set_option linter.unusedVariables false
set_option linter.unusedSimpArgs false
set_option maxRecDepth 20000 in
set_option maxHeartbeats 1600000 in
theorem front_good (P Q G H : Int) (sa : Option Addr) (sc : Nat) (S : List Int) (ha : Option Addr) (hcap : Nat) (R : Nat → Option Addr × Nat) (L : List Hp) (k : Nat) (w : World) (hr : RowL w sa sc S) (hL : RowHop w ha R L) (hc : L.length ≤ hcap) (hk : k < 256) (hg : Good P Q G H S L.length) :
    Calls Try.prog 4 #[.agg #[.int .i64 P, .int .i64 Q, .int .i64 G, .int .i64 H], .slice sa S.length sc, .slice ha L.length hcap, .int .u8 (k : Int)] w fun e w' => e = .returned (.bool true) ∧ Below w.heap.size w w' := by
  have HP1 := Lib.hid fun w' (hb : Below w.heap.size w w') => play_any P Q G H sa sc S ha hcap R L w' (hr.below hb (Nat.le_refl _)) (hL.below hb (Nat.le_refl _))
  have HP2 := Lib.hid fun w' (hb : Below w.heap.size w w') (j : Nat) => play_any P Q G H sa sc S ha hcap R (L.take j) w' (hr.below hb (Nat.le_refl _)) ((hL.take j).below hb (Nat.le_refl _))
  have HU8 := Lib.hid hL.u8
  obtain ⟨sn, hsn⟩ : ∃ n, S.length = n := ⟨_, rfl⟩
  obtain ⟨N, hN⟩ : ∃ n, L.length = n := ⟨_, rfl⟩
  have hg2 := hg
  rw [hN] at hg2
  have hN100 := hg2.2.2.1
  have HG := Lib.hid hg
  obtain ⟨A, hA⟩ : ∃ A, k % (N + 1) = A := ⟨_, rfl⟩
  have hAN : A ≤ N := by rw [← hA]; have := Nat.mod_lt k (show 0 < N + 1 by omega); omega
  have htm : Int.tmod (k : Int) ((N : Int) + 1) = (A : Int) := by
    rw [Int.tmod_eq_emod_of_nonneg (by omega), ← hA]; rfl
  have hAc : A ≤ hcap := by omega
  have hz : ¬ ((N : Int) + 1) = 0 := by omega
  have hz2 : ((N : Int) + 1 == 0) = false := by simp; omega
  have htk : (L.take A).length = A := by rw [List.length_take, hN]; omega
  have HP3 := Lib.hid fun w' hb => HP2.out w' hb A
  rw [htk] at HP3
  rw [hN] at HP1 hc ⊢
  rw [hsn] at HP1 HP3 ⊢
  have HN := Lib.hid hN
  have HTk := Lib.hid htk
  clear hg hg2 hA hN hsn htk HP2 hr hL
  go_enter Try.func4, Try.ntmps4
  go_wp2_with fail
  refine (HP1.out _ (alloc_below _ _)).mono ?_
  rintro e w1 ⟨lv, c, rfl, hb1, hgo, hno⟩
  obtain ⟨rfl, vs, ho⟩ := hgo (by have := HG.out; rw [HN.out] at this; exact this)
  have hb := below_two (alloc_below w _) hb1
  have q0 := kept hb1 (b := w.heap.size) (o := 0) (v := .int .i64 P) (by simp [go_sem]) (by simp)
  have q1 := kept hb1 (b := w.heap.size) (o := 1) (v := .int .i64 Q) (by simp [go_sem]) (by simp)
  have q2 := kept hb1 (b := w.heap.size) (o := 2) (v := .int .i64 G) (by simp [go_sem]) (by simp)
  have q3 := kept hb1 (b := w.heap.size) (o := 3) (v := .int .i64 H) (by simp [go_sem]) (by simp)
  have zg : w.heap.size < w1.heap.size := World.block_lt_of_cell? _ _ q0
  obtain ⟨va, vc, rfl, hvc, hvm, hview⟩ := ho.view
  have hrl : (runF P Q G S st0 L).1.length = N := by rw [runF_len]; exact HN.out
  rw [hrl] at hvc ⊢
  have hAv : A ≤ vc := by omega
  have HV := Lib.hid hview
  have HB := Lib.hid hb
  have HSm := Lib.hid (small_run (P := P) (Q := Q) (G := G) (S := S) L st0 HU8.out)
  have HFr := Lib.hid (runF_front P Q G S L st0 A)
  have nn : ((N : Int) == (N : Int)) = true := by simp
  clear hb1 hgo hno ho hb hview hrl hvm
  go_wp2_with fail
  refine wp_region_D (S := (fun W : World => Below w1.heap.size w1 W)) (fun _ => true) (by kernel_rfl) (Below.refl _ _).drew (fun hHeld => ?_)
  simp only [List.size_toArray, List.length_cons, List.length_nil, Nat.reduceAdd, Array.replicate_succ, Array.replicate_zero, List.push_toArray, List.append_toArray, List.nil_append, List.cons_append]
  refine WD_take (i := 0) (oi := _) (v := ?_) rfl (by kernel_rfl) (fun _ _ _ h => h) (Or.inl ⟨by rfl, ?_⟩) (by assumption) ?_
  rotate_left
  · (intro W hS; (try dsimp only at hS); have kk0 := (hS.cell (p := ⟨w.heap.size, 0, none⟩) zg).trans q0; have kk1 := (hS.cell (p := ⟨w.heap.size, 1, none⟩) zg).trans q1; have kk2 := (hS.cell (p := ⟨w.heap.size, 2, none⟩) zg).trans q2; have kk3 := (hS.cell (p := ⟨w.heap.size, 3, none⟩) zg).trans q3; clear hS; go_simp; with_reducible rfl)
  try simp only [Act.put, List.getElem_toArray, List.getElem_cons_succ, List.getElem_cons_zero, List.setIfInBounds_toArray, List.set_cons_zero, List.set_cons_succ]
  refine WD_free (i := 1) (oi := _) (v := ?_) rfl (by kernel_rfl) (fun _ _ _ h => h) (Or.inl ⟨by rfl, ?_⟩) ?_
  rotate_left
  · (intro W hS; (try dsimp only at hS); clear hS; go_simp; with_reducible rfl)
  try simp only [Act.put, List.getElem_toArray, List.getElem_cons_succ, List.getElem_cons_zero, List.setIfInBounds_toArray, List.set_cons_zero, List.set_cons_succ]
  refine WD_free (i := 2) (oi := _) (v := ?_) rfl (by kernel_rfl) (fun _ _ _ h => h) (Or.inl ⟨by rfl, ?_⟩) ?_
  rotate_left
  · (intro W hS; (try dsimp only at hS); clear hS; go_simp; with_reducible rfl)
  try simp only [Act.put, List.getElem_toArray, List.getElem_cons_succ, List.getElem_cons_zero, List.setIfInBounds_toArray, List.set_cons_zero, List.set_cons_succ]
  refine WD_free (i := 3) (oi := _) (v := ?_) rfl (by kernel_rfl) (fun _ _ _ h => h) (Or.inl ⟨by rfl, ?_⟩) ?_
  rotate_left
  · (intro W hS; (try dsimp only at hS); clear hS; go_simp; with_reducible rfl)
  try simp only [Act.put, List.getElem_toArray, List.getElem_cons_succ, List.getElem_cons_zero, List.setIfInBounds_toArray, List.set_cons_zero, List.set_cons_succ]
  refine WD_free (i := 4) (oi := _) (v := ?_) rfl (by kernel_rfl) (fun _ _ _ h => h) (Or.inl ⟨by rfl, ?_⟩) ?_
  rotate_left
  · (intro W hS; (try dsimp only at hS); clear hS; go_simp; with_reducible rfl)
  try simp only [Act.put, List.getElem_toArray, List.getElem_cons_succ, List.getElem_cons_zero, List.setIfInBounds_toArray, List.set_cons_zero, List.set_cons_succ]
  refine WD_step (i := 5) (o := _) rfl (by kernel_rfl) (fun K hK => ?_)
  go_simp
  refine (HP3.out _ (HB.out.trans (hHeld.mono HB.out.size))).mono ?_
  rintro e w2 ⟨mv, c2, rfl, hb2, hgo2, hno2⟩
  obtain ⟨rfl, us, ho2⟩ := hgo2 ⟨HG.out.1, HG.out.2.1, by omega, HG.out.2.2.2⟩
  obtain ⟨ua, uc, rfl, _, _, hview2⟩ := ho2.view
  have hrl2 : (runF P Q G S st0 (L.take A)).1.length = A := by rw [runF_len]; exact HTk.out
  have hhp := ref_Hops_same ua va uc vc _ w2 hview2 (by rw [HFr.out]; exact ((HV.out.take A).below hHeld).below hb2) (fun r hr => by rw [HFr.out] at hr; exact HSm.out r (List.mem_of_mem_take hr)) (by rw [hrl2]; omega)
  rw [hrl2] at hhp ⊢
  have HHp := Lib.hid hhp
  clear hhp hrl2 hview2 ho2 hno2
  go_wp2_with fail
  replace hHeld := below_two hHeld hb2
  refine hK.out _ _ (fun _ _ => hHeld) ?_
  clear hK K
  try simp only [Act.put, List.getElem_toArray, List.getElem_cons_succ, List.getElem_cons_zero, List.setIfInBounds_toArray, List.set_cons_zero, List.set_cons_succ]
  refine WD_free (i := 6) (oi := _) (v := ?_) rfl (by kernel_rfl) (fun _ _ _ h => h) (Or.inl ⟨by rfl, ?_⟩) ?_
  rotate_left
  · (intro W hS; (try dsimp only at hS); clear hS; go_simp; with_reducible rfl)
  try simp only [Act.put, List.getElem_toArray, List.getElem_cons_succ, List.getElem_cons_zero, List.setIfInBounds_toArray, List.set_cons_zero, List.set_cons_succ]
  refine WD_free (i := 7) (oi := _) (v := ?_) rfl (by kernel_rfl) (fun _ _ _ h => h) (Or.inl ⟨by rfl, ?_⟩) ?_
  rotate_left
  · (intro W hS; (try dsimp only at hS); clear hS; go_simp; with_reducible rfl)
  try simp only [Act.put, List.getElem_toArray, List.getElem_cons_succ, List.getElem_cons_zero, List.setIfInBounds_toArray, List.set_cons_zero, List.set_cons_succ]
  refine WD_free (i := 8) (oi := _) (v := ?_) rfl (by kernel_rfl) (fun _ _ _ h => h) (Or.inl ⟨by rfl, ?_⟩) ?_
  rotate_left
  · (intro W hS; (try dsimp only at hS); clear hS; go_simp; with_reducible rfl)
  try simp only [Act.put, List.getElem_toArray, List.getElem_cons_succ, List.getElem_cons_zero, List.setIfInBounds_toArray, List.set_cons_zero, List.set_cons_succ]
  refine WD_free (i := 9) (oi := _) (v := ?_) rfl (by kernel_rfl) (fun _ _ _ h => h) (Or.inl ⟨by rfl, ?_⟩) ?_
  rotate_left
  · (intro W hS; (try dsimp only at hS); clear hS; go_simp; with_reducible rfl)
  try simp only [Act.put, List.getElem_toArray, List.getElem_cons_succ, List.getElem_cons_zero, List.setIfInBounds_toArray, List.set_cons_zero, List.set_cons_succ]
  refine WD_free (i := 10) (oi := _) (v := ?_) rfl (by kernel_rfl) (fun _ _ _ h => h) (Or.inl ⟨by rfl, ?_⟩) ?_
  rotate_left
  · (intro W hS; (try dsimp only at hS); clear hS; go_simp; with_reducible rfl)
  try simp only [Act.put, List.getElem_toArray, List.getElem_cons_succ, List.getElem_cons_zero, List.setIfInBounds_toArray, List.set_cons_zero, List.set_cons_succ]
  refine WD_done (by kernel_rfl) ?_ _
  have HB3 := Lib.hid (HB.out.trans (hHeld.mono HB.out.size))
  clear hHeld
  go_wp2_with ((go_at_call 7; refine HHp.out.mono ?_; rintro e w3 ⟨rfl, hb3⟩))
  go_ret
  exact ⟨rfl, below_two HB3.out hb3⟩
set_option maxRecDepth 20000 in
set_option maxHeartbeats 1600000 in
theorem front_bad (P Q G H : Int) (sa : Option Addr) (sc : Nat) (S : List Int) (ha : Option Addr) (hcap : Nat) (R : Nat → Option Addr × Nat) (L : List Hp) (k : Nat) (w : World) (hr : RowL w sa sc S) (hL : RowHop w ha R L) (hc : L.length ≤ hcap) (hk : k < 256) (hg : ¬ Good P Q G H S L.length) (hl : L.length ≤ 9223372036854775807) :
    Calls Try.prog 4 #[.agg #[.int .i64 P, .int .i64 Q, .int .i64 G, .int .i64 H], .slice sa S.length sc, .slice ha L.length hcap, .int .u8 (k : Int)] w fun e w' => e = .returned (.bool true) ∧ Below w.heap.size w w' := by
  have HP1 := Lib.hid fun w' (hb : Below w.heap.size w w') => play_any P Q G H sa sc S ha hcap R L w' (hr.below hb (Nat.le_refl _)) (hL.below hb (Nat.le_refl _))
  have HP2 := Lib.hid fun w' (hb : Below w.heap.size w w') (j : Nat) => play_any P Q G H sa sc S ha hcap R (L.take j) w' (hr.below hb (Nat.le_refl _)) ((hL.take j).below hb (Nat.le_refl _))
  have HU8 := Lib.hid hL.u8
  obtain ⟨sn, hsn⟩ : ∃ n, S.length = n := ⟨_, rfl⟩
  obtain ⟨N, hN⟩ : ∃ n, L.length = n := ⟨_, rfl⟩
  obtain ⟨D, A, hD, hD0, htm, hAN, hA5⟩ : ∃ (D : Int) (A : Nat), IntKind.i64.wrap ((N : Int) + 1) = D ∧ ¬ D = 0 ∧ Int.tmod (k : Int) D = (A : Int) ∧ A ≤ N ∧ A ≤ 255 := by
    rw [hN] at hl
    by_cases h : N = 9223372036854775807
    · subst h
      refine ⟨-9223372036854775808, k, by decide, by decide, ?_, by omega, by omega⟩
      rw [Int.tmod_eq_emod_of_nonneg (by omega), Int.emod_neg]
      exact Int.emod_eq_of_lt (by omega) (by omega)
    · refine ⟨(N : Int) + 1, k % (N + 1), IntWalk.i64_in _ (by omega), by omega, ?_, ?_, ?_⟩
      · rw [Int.tmod_eq_emod_of_nonneg (by omega)]; rfl
      · have := Nat.mod_lt k (show 0 < N + 1 by omega); omega
      · have := Nat.mod_le k (N + 1); omega
  have hAc : A ≤ hcap := by omega
  have hz2 : (D == 0) = false := by simpa using hD0
  have htk : (L.take A).length = A := by rw [List.length_take, hN]; omega
  have HP3 := Lib.hid fun w' hb => HP2.out w' hb A
  rw [htk] at HP3
  have HG := Lib.hid hg
  rw [hN] at HP1 ⊢
  rw [hsn] at HP1 HP3 ⊢
  have HN := Lib.hid hN
  clear hl hc hg hN hsn htk HP2 hr hL hAN HU8
  go_enter Try.func4, Try.ntmps4
  go_wp2_with fail
  refine (HP1.out _ (alloc_below _ _)).mono ?_
  rintro e w1 ⟨lv, c, rfl, hb1, hgo, hno⟩
  obtain ⟨c0, rfl⟩ := hno (by have := HG.out; rw [HN.out] at this; exact this)
  have x1 : (c == (0 : Int)) = false := by simpa using c0
  have x2 : (c != (0 : Int)) = true := by simpa using c0
  have hb := below_two (alloc_below w _) hb1
  have q0 := kept hb1 (b := w.heap.size) (o := 0) (v := .int .i64 P) (by simp [go_sem]) (by simp)
  have q1 := kept hb1 (b := w.heap.size) (o := 1) (v := .int .i64 Q) (by simp [go_sem]) (by simp)
  have q2 := kept hb1 (b := w.heap.size) (o := 2) (v := .int .i64 G) (by simp [go_sem]) (by simp)
  have q3 := kept hb1 (b := w.heap.size) (o := 3) (v := .int .i64 H) (by simp [go_sem]) (by simp)
  have zg : w.heap.size < w1.heap.size := World.block_lt_of_cell? _ _ q0
  have HB := Lib.hid hb
  clear hb1 hgo hno hb c0
  go_wp2_with fail
  refine wp_region_D (S := (fun W : World => Below w1.heap.size w1 W)) (fun _ => true) (by kernel_rfl) (Below.refl _ _).drew (fun hHeld => ?_)
  simp only [List.size_toArray, List.length_cons, List.length_nil, Nat.reduceAdd, Array.replicate_succ, Array.replicate_zero, List.push_toArray, List.append_toArray, List.nil_append, List.cons_append]
  refine WD_take (i := 0) (oi := _) (v := ?_) rfl (by kernel_rfl) (fun _ _ _ h => h) (Or.inl ⟨by rfl, ?_⟩) (by assumption) ?_
  rotate_left
  · (intro W hS; (try dsimp only at hS); have kk0 := (hS.cell (p := ⟨w.heap.size, 0, none⟩) zg).trans q0; have kk1 := (hS.cell (p := ⟨w.heap.size, 1, none⟩) zg).trans q1; have kk2 := (hS.cell (p := ⟨w.heap.size, 2, none⟩) zg).trans q2; have kk3 := (hS.cell (p := ⟨w.heap.size, 3, none⟩) zg).trans q3; clear hS; go_simp; with_reducible rfl)
  try simp only [Act.put, List.getElem_toArray, List.getElem_cons_succ, List.getElem_cons_zero, List.setIfInBounds_toArray, List.set_cons_zero, List.set_cons_succ]
  refine WD_free (i := 1) (oi := _) (v := ?_) rfl (by kernel_rfl) (fun _ _ _ h => h) (Or.inl ⟨by rfl, ?_⟩) ?_
  rotate_left
  · (intro W hS; (try dsimp only at hS); clear hS; go_simp; with_reducible rfl)
  try simp only [Act.put, List.getElem_toArray, List.getElem_cons_succ, List.getElem_cons_zero, List.setIfInBounds_toArray, List.set_cons_zero, List.set_cons_succ]
  refine WD_free (i := 2) (oi := _) (v := ?_) rfl (by kernel_rfl) (fun _ _ _ h => h) (Or.inl ⟨by rfl, ?_⟩) ?_
  rotate_left
  · (intro W hS; (try dsimp only at hS); clear hS; go_simp; with_reducible rfl)
  try simp only [Act.put, List.getElem_toArray, List.getElem_cons_succ, List.getElem_cons_zero, List.setIfInBounds_toArray, List.set_cons_zero, List.set_cons_succ]
  refine WD_free (i := 3) (oi := _) (v := ?_) rfl (by kernel_rfl) (fun _ _ _ h => h) (Or.inl ⟨by rfl, ?_⟩) ?_
  rotate_left
  · (intro W hS; (try dsimp only at hS); clear hS; go_simp; with_reducible rfl)
  try simp only [Act.put, List.getElem_toArray, List.getElem_cons_succ, List.getElem_cons_zero, List.setIfInBounds_toArray, List.set_cons_zero, List.set_cons_succ]
  refine WD_free (i := 4) (oi := _) (v := ?_) rfl (by kernel_rfl) (fun _ _ _ h => h) (Or.inl ⟨by rfl, ?_⟩) ?_
  rotate_left
  · (intro W hS; (try dsimp only at hS); clear hS; go_simp; with_reducible rfl)
  try simp only [Act.put, List.getElem_toArray, List.getElem_cons_succ, List.getElem_cons_zero, List.setIfInBounds_toArray, List.set_cons_zero, List.set_cons_succ]
  refine WD_step (i := 5) (o := _) rfl (by kernel_rfl) (fun K hK => ?_)
  go_simp
  refine (HP3.out _ (HB.out.trans (hHeld.mono HB.out.size))).mono ?_
  rintro e w2 ⟨mv, c2, rfl, hb2, hgo2, hno2⟩
  clear hgo2 hno2
  go_wp2_with fail
  replace hHeld := below_two hHeld hb2
  refine hK.out _ _ (fun _ _ => hHeld) ?_
  clear hK K
  try simp only [Act.put, List.getElem_toArray, List.getElem_cons_succ, List.getElem_cons_zero, List.setIfInBounds_toArray, List.set_cons_zero, List.set_cons_succ]
  refine WD_free (i := 6) (oi := _) (v := ?_) rfl (by kernel_rfl) (fun _ _ _ h => h) (Or.inl ⟨by rfl, ?_⟩) ?_
  rotate_left
  · (intro W hS; (try dsimp only at hS); clear hS; go_simp; with_reducible rfl)
  try simp only [Act.put, List.getElem_toArray, List.getElem_cons_succ, List.getElem_cons_zero, List.setIfInBounds_toArray, List.set_cons_zero, List.set_cons_succ]
  refine WD_free (i := 7) (oi := _) (v := ?_) rfl (by kernel_rfl) (fun _ _ _ h => h) (Or.inl ⟨by rfl, ?_⟩) ?_
  rotate_left
  · (intro W hS; (try dsimp only at hS); clear hS; go_simp; with_reducible rfl)
  try simp only [Act.put, List.getElem_toArray, List.getElem_cons_succ, List.getElem_cons_zero, List.setIfInBounds_toArray, List.set_cons_zero, List.set_cons_succ]
  refine WD_free (i := 8) (oi := _) (v := ?_) rfl (by kernel_rfl) (fun _ _ _ h => h) (Or.inl ⟨by rfl, ?_⟩) ?_
  rotate_left
  · (intro W hS; (try dsimp only at hS); clear hS; go_simp; with_reducible rfl)
  try simp only [Act.put, List.getElem_toArray, List.getElem_cons_succ, List.getElem_cons_zero, List.setIfInBounds_toArray, List.set_cons_zero, List.set_cons_succ]
  refine WD_free (i := 9) (oi := _) (v := ?_) rfl (by kernel_rfl) (fun _ _ _ h => h) (Or.inl ⟨by rfl, ?_⟩) ?_
  rotate_left
  · (intro W hS; (try dsimp only at hS); clear hS; go_simp; with_reducible rfl)
  try simp only [Act.put, List.getElem_toArray, List.getElem_cons_succ, List.getElem_cons_zero, List.setIfInBounds_toArray, List.set_cons_zero, List.set_cons_succ]
  refine WD_free (i := 10) (oi := _) (v := ?_) rfl (by kernel_rfl) (fun _ _ _ h => h) (Or.inl ⟨by rfl, ?_⟩) ?_
  rotate_left
  · (intro W hS; (try dsimp only at hS); clear hS; go_simp; with_reducible rfl)
  try simp only [Act.put, List.getElem_toArray, List.getElem_cons_succ, List.getElem_cons_zero, List.setIfInBounds_toArray, List.set_cons_zero, List.set_cons_succ]
  refine WD_done (by kernel_rfl) ?_ _
  have HB3 := Lib.hid (HB.out.trans (hHeld.mono HB.out.size))
  clear hHeld
  go_wp2
  go_ret
  exact ⟨rfl, HB3.out⟩
theorem WTopFront (a0x : Int) (a0y : Int) (a0z : Int) (a0u : Int) (a1 : Option Addr) (len1 cap1 : Nat) (z1 : List Int) (a2 : Option Addr) (len2 cap2 : Nat) (z2 : List Hp) (a3 : Int) (w : World) (w0x : (Lit.int .i64 a0x).wf = true) (w0y : (Lit.int .i64 a0y).wf = true) (w0z : (Lit.int .i64 a0z).wf = true) (w0u : (Lit.int .i64 a0u).wf = true) (w1 : IsRow .i64 w a1 len1 cap1 z1) (w2 : IsHops w a2 len2 cap2 z2) (w3 : (Lit.int .u8 a3).wf = true) :
    Calls Try.prog 4 #[.agg #[.int .i64 a0x, .int .i64 a0y, .int .i64 a0z, .int .i64 a0u], .slice a1 len1 cap1, .slice a2 len2 cap2, .int .u8 a3] w fun e w' => e = .returned (.bool true) ∧ Below w.heap.size w w' := by
  obtain ⟨S, hS, hr, _⟩ := w1.longs
  obtain ⟨hl, hl2, hl3, R, hL⟩ := w2
  subst hS
  subst hl
  have w3' : 0 ≤ a3 ∧ a3 < 256 := by
    have : -0 ≤ a3 ∧ a3 ≤ 255 := by simpa [Lit.wf, IntKind.min, IntKind.max, IntKind.signed, go_sem] using w3
    omega
  obtain ⟨k, rfl⟩ := Int.eq_ofNat_of_zero_le w3'.1
  by_cases hg : Good a0x a0y a0z a0u S z2.length
  · exact front_good a0x a0y a0z a0u a1 cap1 S a2 cap2 R z2 k w hr hL hl3 (by omega) hg
  · exact front_bad a0x a0y a0z a0u a1 cap1 S a2 cap2 R z2 k w hr hL hl3 (by omega) hg hl2
end Go.Proofs.Ytkodhpjmmiapaaa
