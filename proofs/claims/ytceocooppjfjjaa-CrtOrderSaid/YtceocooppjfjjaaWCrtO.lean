/- The walk of CrtOrder. -/
import Derived.Test.YtceocooppjfjjaaCrtS
import Derived.Test.YtceocooppjfjjaaAppS
import Derived.Test.YtceocooppjfjjaaPrF
import Derived.BigQuiet
import Derived.Deep.QuietTactic
import Derived.Laws.StructEq
namespace Go.Proofs.Ytceocooppjfjjaa
open Go.RowKit Go.Maps
set_option linter.unusedVariables false
set_option linter.unusedSimpArgs false
theorem rest_info : (Try.prog.info? 46).map (fun i => (i.zero, i.size, i.bytes)) = some (some (.agg #[.int .i64 0, .int .i64 0]), 2, 16) := by kernel_rfl
/-- the congruences turned, and one of them again -/
def turnL (l : List (Int × Int)) (k : Nat) : List (Int × Int) := l.drop k ++ l.take k
theorem turn_mem {l : List (Int × Int)} {k : Nat} {u : Int × Int} (hu : l[k]? = some u) (v : Int × Int) : v ∈ turnL l k ++ [u] ↔ v ∈ l := by
  have h : v ∈ turnL l k ↔ v ∈ l := by
    unfold turnL
    rw [List.mem_append, Or.comm, ← List.mem_append, List.take_append_drop]
  rw [List.mem_append, h, List.mem_singleton]
  exact ⟨fun h => h.elim id (fun e => e ▸ List.mem_of_getElem? hu), .inl⟩
theorem turn_len (l : List (Int × Int)) (k : Nat) : (turnL l k).length = l.length := by
  unfold turnL; rw [List.length_append, List.length_drop, List.length_take]; omega
theorem fits_mem {l l' : List (Int × Int)} (h : ∀ v, v ∈ l' ↔ v ∈ l) (x : Int) : FitsAll l x ↔ FitsAll l' x :=
  ⟨fun hf v hv => hf v ((h v).1 hv), fun hf v hv => hf v ((h v).2 hv)⟩
theorem lcmI_mem {l l' : List (Int × Int)} (h : ∀ v, v ∈ l' ↔ v ∈ l) (hp : ∀ v ∈ l, 1 ≤ v.2) : lcmI 1 l = lcmI 1 l' := by
  have hp' : ∀ v ∈ l', 1 ≤ v.2 := fun v hv => hp v ((h v).1 hv)
  have a := (lcmI_pos l 1 (by omega) hp).1
  have b := (lcmI_pos l' 1 (by omega) hp').1
  have d1 : lcmI 1 l ∣ lcmI 1 l' := (lcmI_dvd_iff l 1).2 ⟨Int.one_dvd _, fun v hv => ((lcmI_dvd_iff l' 1).1 (Int.dvd_refl _)).2 v ((h v).2 hv)⟩
  have d2 : lcmI 1 l' ∣ lcmI 1 l := (lcmI_dvd_iff l' 1).2 ⟨Int.one_dvd _, fun v hv => ((lcmI_dvd_iff l 1).1 (Int.dvd_refl _)).2 v ((h v).1 hv)⟩
  exact Int.le_antisymm (Int.le_of_dvd (by omega) d1) (Int.le_of_dvd (by omega) d2)
theorem rests_mem {l l' : List (Int × Int)} (h : ∀ v, v ∈ l' ↔ v ∈ l) (h1 : l.length ≤ 8) (h2 : l'.length ≤ 8) : restsE l = restsE l' := by
  have e : l.any badR = l'.any badR := by
    rw [Bool.eq_iff_iff, List.any_eq_true, List.any_eq_true]
    exact ⟨fun ⟨v, a, b⟩ => ⟨v, (h v).2 a, b⟩, fun ⟨v, a, b⟩ => ⟨v, (h v).1 a, b⟩⟩
  unfold restsE
  rw [if_neg (show ¬ 8 < l.length by omega), if_neg (show ¬ 8 < l'.length by omega), e]
  by_cases hb : l'.any badR = true
  · rw [if_pos hb, if_pos hb]
  · rw [if_neg hb, if_neg hb]
    rw [lcmI_mem h (fun v hv => by
      have := List.any_eq_false.1 (show l.any badR = false by rw [e]; simpa using hb) v hv
      exact (badR_no (by simpa using this)).1)]
/-- whatever is solved of the same congruences is the same -/
theorem sol_same {l l' : List (Int × Int)} (h : ∀ v, v ∈ l' ↔ v ∈ l) {w w' w2 w2' : World} {e e' : Ending} (hp : ∀ v ∈ l, 1 ≤ v.2) (h1 : SolP l w e w') (h2 : SolP l' w2 e' w2') : e = e' := by
  obtain ⟨⟨A, M, a1, rfl⟩ | ⟨a1, rfl⟩, _⟩ := h1 <;> obtain ⟨⟨A', M', c1, rfl⟩ | ⟨c1, rfl⟩, _⟩ := h2
  · have hM : M = M' := by rw [a1.lc, c1.lc]; exact lcmI_mem h hp
    have hA := cinv_same a1 c1 (fits_mem h) hM
    rw [hA, hM]
  · exact (c1 A ((fits_mem h A).1 ((a1.fit A).2 (by simp)))).elim
  · exact (a1 A' ((fits_mem h A').2 ((c1.fit A').2 (by simp)))).elim
  · rfl
/-- what Solve answers, in short -/
def SolE (l : List (Int × Int)) (A M E : Int) : Prop := (E = 0 ∧ CInv l A M) ∨ (E ≠ 0 ∧ A = 0 ∧ M = 0 ∧ (restsE l ≠ 0 ∧ E = restsE l ∨ restsE l = 0 ∧ E = 5 ∧ ∀ x, ¬ FitsAll l x))
theorem solE_same {l l' : List (Int × Int)} (h : ∀ v, v ∈ l' ↔ v ∈ l) (h1 : l.length ≤ 8) (h2 : l'.length ≤ 8) {A M E A' M' E' : Int} (a : SolE l A M E) (b : SolE l' A' M' E') (hz : restsE l = 0 ∨ restsE l ≠ 0) (ha : E = 0 → restsE l = 0) (hb : E' = 0 → restsE l' = 0) : A = A' ∧ M = M' ∧ E = E' := by
  have hr := rests_mem h h1 h2
  rcases a with ⟨e1, c1⟩ | ⟨e1, rfl, rfl, k1⟩ <;> rcases b with ⟨e2, c2⟩ | ⟨e2, rfl, rfl, k2⟩
  · have hp := rests_pos (restsE_zero (ha e1)).2.1
    have hM : M = M' := by rw [c1.lc, c2.lc]; exact lcmI_mem h hp
    exact ⟨cinv_same c1 c2 (fits_mem h) hM, hM, by rw [e1, e2]⟩
  · rcases k2 with ⟨k, _⟩ | ⟨_, _, k⟩
    · exact absurd (hr.symm.trans (ha e1)) k
    · exact (k A ((fits_mem h A).1 ((c1.fit A).2 (by simp)))).elim
  · rcases k1 with ⟨k, _⟩ | ⟨_, _, k⟩
    · exact absurd (hr.trans (hb e2)) k
    · exact (k A' ((fits_mem h A').2 ((c2.fit A').2 (by simp)))).elim
  · refine ⟨rfl, rfl, ?_⟩
    rcases k1 with ⟨q, k⟩ | ⟨q, k, _⟩ <;> rcases k2 with ⟨q', k'⟩ | ⟨q', k', _⟩
    · rw [k, k', hr]
    · exact absurd (hr.trans q') q
    · exact absurd (hr.symm.trans q) q'
    · rw [k, k']
theorem solve_any (a : Option Addr) (c : Nat) (l : List (Int × Int)) (w : World) {L : Nat} (h : RowP w a c l) (eL : l.length = L) (hl : L ≤ 9223372036854775807) :
    Calls Try.prog 26 #[.slice a L c] w fun e w' => (∃ A M E : Int, e = .returned (.tuple #[.agg #[.int .i64 A, .int .i64 M], .int .i64 E]) ∧ Hid (SolE l A M E ∧ (E = 0 → restsE l = 0))) ∧ Below w.heap.size w w' := by
  by_cases hr : restsE l = 0
  · refine (crt_Solve a c l w h eL hr).mono ?_
    rintro e w' ⟨⟨A, M, c1, rfl⟩ | ⟨c1, rfl⟩, hb⟩
    · exact ⟨⟨A, M, 0, rfl, Lib.hid ⟨.inl ⟨rfl, c1⟩, fun _ => hr⟩⟩, hb⟩
    · exact ⟨⟨0, 0, 5, rfl, Lib.hid ⟨.inr ⟨by decide, rfl, rfl, .inr ⟨hr, rfl, c1⟩⟩, fun _ => hr⟩⟩, hb⟩
  · refine (crt_Solve_bad a c l w h eL hl hr).mono ?_
    rintro e w' ⟨rfl, hb⟩
    exact ⟨⟨0, 0, restsE l, rfl, Lib.hid ⟨.inr ⟨hr, rfl, rfl, .inl ⟨hr, rfl⟩⟩, fun h => absurd h hr⟩⟩, hb⟩
theorem wf8 {a : Int} (h : (Lit.int .u8 a).wf = true) : 0 ≤ a ∧ a ≤ 255 := by
  simpa [Lit.wf, IntKind.min, IntKind.max, IntKind.signed, go_sem] using h
theorem solE_nil {A M E : Int} (h : SolE [] A M E) : E = 0 ∧ A = 0 ∧ M = 1 := by
  have hr : restsE [] = 0 := rfl
  rcases h with ⟨e, c⟩ | ⟨_, _, _, k⟩
  · have := c.lc; have := c.a0; have := c.am
    have hM : M = 1 := c.lc
    exact ⟨e, by omega, hM⟩
  · rcases k with ⟨k, _⟩ | ⟨_, _, k⟩
    · exact absurd hr k
    · exact (k 0 (fun v hv => by simp at hv)).elim
theorem flatI_drop : ∀ (k : Nat) (l : List (Int × Int)), flatI (l.drop k) = (flatI l).drop (k * 2)
  | 0, l => by simp
  | k + 1, [] => by simp [flatI]
  | k + 1, v :: t => by
    rw [List.drop_succ_cons, flatI_drop k t, show (k + 1) * 2 = k * 2 + 1 + 1 by omega]
    rfl
theorem flatI_take : ∀ (k : Nat) (l : List (Int × Int)), flatI (l.take k) = (flatI l).take (k * 2)
  | 0, l => by simp [flatI]
  | k + 1, [] => by simp [flatI]
  | k + 1, v :: t => by
    rw [List.take_succ_cons, show (k + 1) * 2 = k * 2 + 1 + 1 by omega]
    show Value.int .i64 v.1 :: Value.int .i64 v.2 :: flatI (t.take k) = _
    rw [flatI_take k t]
    rfl
theorem flatI_one' (l : List (Int × Int)) : ∀ u ∈ flatI l, u.oneCell' = true := by
  intro u hu
  obtain ⟨v, _, hv⟩ := List.mem_flatMap.1 hu
  simp at hv
  rcases hv with rfl | rfl <;> rfl
theorem RowP.dropP {W : World} {b o c : Nat} {l : List (Int × Int)} (h : RowP W (some ⟨b, o, none⟩) c l) (k j : Nat) (u : Value) (hu : (flatI (l.drop k))[j]? = some u) : W.cell? ((⟨b, o + k * 2, none⟩ : Addr).add j) = some u := by
  rw [flatI_drop, List.getElem?_drop] at hu
  have := h.2.1 _ rfl _ _ hu
  rw [Addr.add_lit] at this ⊢
  rw [Nat.add_assoc]; exact this
theorem RowP.takeP {W : World} {b o c : Nat} {l : List (Int × Int)} (h : RowP W (some ⟨b, o, none⟩) c l) (k j : Nat) (u : Value) (hu : (flatI (l.take k))[j]? = some u) : W.cell? ((⟨b, o, none⟩ : Addr).add j) = some u := by
  rw [flatI_take, List.getElem?_take] at hu
  split at hu
  · exact h.2.1 _ rfl _ _ hu
  · cases hu
theorem own_rows5 {W : World} {base L : Nat} {v : Value} {l : List (Int × Int)} {x y : Int} {e : TypeId} (hl : l.length = L) (h : W.ownsRow base e 2 v (L + 1) (flatI l ++ [.int .i64 x, .int .i64 y])) : ∃ a c, v = .slice a (L + 1) c ∧ RowP W a c (l ++ [(x, y)]) := by
  obtain ⟨a, c, h1, h2⟩ := own_rowP (pts := l ++ [(x, y)]) (by rw [flatI_append, List.length_append, List.length_singleton, hl]; exact h)
  exact ⟨a, c, by rw [h1, List.length_append, List.length_singleton, hl], h2⟩
set_option maxRecDepth 100000 in
set_option maxHeartbeats 6400000 in
theorem WCrtOrder (a0 : Option Addr) (len0 cap0 : Nat) (z0 : List (Int × Int)) (a1 : Int) (w : World) (w0 : IsPts w a0 len0 cap0 z0) (w1 : (Lit.int .u8 a1).wf = true) :
    Calls Try.prog 10 #[.slice a0 len0 cap0, .int .u8 a1] w fun e w' => e = .returned (.bool true) ∧ Below w.heap.size w w' := by
  obtain ⟨e0, h0, l0⟩ := w0.pts
  obtain ⟨k1, k2⟩ := wf8 w1
  clear w0 w1
  have HS := Lib.hid (solve_any a0 cap0 z0 w h0 e0 l0)
  have HR := Lib.hid h0
  have HL := Lib.hid e0
  by_cases hz : len0 = 0
  · subst hz
    have HE : Hid (z0 = []) := Lib.hid (List.eq_nil_of_length_eq_zero e0)
    clear h0 e0
    go_enter Try.func10, Try.ntmps10
    go_wp2_with fail
    refine HS.out.mono ?_
    rintro e w1 ⟨⟨A, M, E, rfl, HA⟩, hb1⟩
    have hs := HA.out.1
    rw [HE.out] at hs
    obtain ⟨rfl, rfl, rfl⟩ := solE_nil hs
    clear hs
    go_wp2
    go_ret
    exact ⟨ret_bool (by simp), hb1.alloc hb1.size _⟩
  · by_cases h8 : 8 ≤ len0
    · have t1 : ((len0 : Int) == 0) = false := by rw [beq_eq_false_iff_ne]; omega
      have t2 : decide (8 ≤ (len0 : Int)) = true := decide_eq_true (by omega)
      have t3 : decide (0 < (len0 : Int)) = true := decide_eq_true (by omega)
      have t4 : decide (0 < len0) = true := decide_eq_true (by omega)
      clear h0 e0
      go_enter Try.func10, Try.ntmps10
      go_wp2_with fail
      refine HS.out.mono ?_
      rintro e w1 ⟨⟨A, M, E, rfl, HA⟩, hb1⟩
      go_wp2
      all_goals
        go_ret
        exact ⟨ret_bool (by simp), hb1.alloc hb1.size _⟩
    · have t1 : ((len0 : Int) == 0) = false := by rw [beq_eq_false_iff_ne]; omega
      have t2 : decide (8 ≤ (len0 : Int)) = false := decide_eq_false (by omega)
      have L1 : (1 : Int) ≤ len0 := by omega
      obtain ⟨AT, hAT⟩ : ∃ AT : Nat, a1 % (len0 : Int) = AT := ⟨(a1 % (len0 : Int)).toNat, by have := Int.emod_nonneg a1 (show (len0 : Int) ≠ 0 by omega); omega⟩
      have at1 : AT < len0 := by have := Int.emod_lt_of_pos a1 (show 0 < (len0 : Int) by omega); omega
      have fat := hAT
      obtain ⟨u, hu⟩ : ∃ u, z0[AT]? = some u := ⟨_, List.getElem?_eq_getElem (by omega)⟩
      have HU := Lib.hid hu
      obtain ⟨b, o, rfl, hcell⟩ := h0.shape (by omega)
      have HCell := Lib.hid hcell
      obtain ⟨i0, hi, hz0, hz1, hz2⟩ := info_parts rest_info
      have hu1 : Try.prog.underlying 44 = some (.slice 46) := by kernel_rfl
      have hcap : len0 ≤ cap0 := by have := h0.2.2; omega
      have f1 : (0 : Int) ≤ AT := by omega
      have f2 : (AT : Int) ≤ len0 := by omega
      have f3 : (AT : Int) ≤ cap0 := by omega
      have f4 : (len0 : Int) ≤ cap0 := by omega
      have f5 : (AT : Int) < len0 := by omega
      have f6 : ¬ cap0 = AT := by omega
      have f7 : ¬ AT = cap0 := by omega
      clear h0 e0 hu hcell hAT
      go_enter Try.func10, Try.ntmps10
      go_wp2_with fail
      refine HS.out.mono ?_
      rintro e w1 ⟨⟨A, M, E, rfl, HA⟩, hb1⟩
      have HB1 := Lib.hid hb1
      clear hb1
      go_wp2_with fail
      rw [fat]
      obtain ⟨B, hBe⟩ : ∃ B : World, B = w1.alloc (.cells #[.int .i64 A, .int .i64 M] 46) := ⟨_, rfl⟩
      have hB : Below w.heap.size w B := by rw [hBe]; exact HB1.out.alloc HB1.out.size _
      have c0 : B.cell? ⟨w1.heap.size, 0, none⟩ = some (.int .i64 A) := by rw [hBe]; simp [go_sem]
      have c1 : B.cell? ⟨w1.heap.size, 1, none⟩ = some (.int .i64 M) := by rw [hBe]; simp [go_sem]
      rw [← hBe]
      clear hBe fat HS
      have HB := Lib.hid hB
      have zw := hB.size
      clear hB
      refine wp_region_D (S := (fun W : World => Below B.heap.size B W)) (fun _ => true) (by kernel_rfl) (Below.refl _ _).drew (fun hHeld => ?_)
      simp only [List.size_toArray, List.length_cons, List.length_nil, Nat.reduceAdd, Array.replicate_succ, Array.replicate_zero, List.push_toArray, List.append_toArray, List.nil_append, List.cons_append]
      refine WD_free (i := 1) (oi := _) (v := ?_) rfl (by kernel_rfl) (fun _ _ _ h => h) (Or.inl ⟨by rfl, ?_⟩) ?_
      rotate_left
      · (intro W hS; (try dsimp only at hS); clear hS; go_simp; with_reducible rfl)
      try simp only [Act.put, List.getElem_toArray, List.getElem_cons_succ, List.getElem_cons_zero, List.setIfInBounds_toArray, List.set_cons_zero, List.set_cons_succ]
      refine WD_free (i := 2) (oi := _) (v := ?_) rfl (by kernel_rfl) (fun _ _ _ h => h) (Or.inl ⟨by rfl, ?_⟩) ?_
      rotate_left
      · (intro W hS; (try dsimp only at hS); clear hS; go_simp; with_reducible rfl)
      try simp only [Act.put, List.getElem_toArray, List.getElem_cons_succ, List.getElem_cons_zero, List.setIfInBounds_toArray, List.set_cons_zero, List.set_cons_succ]
      refine WD_free (i := 3) (oi := _) (v := ?_) rfl (by kernel_rfl) (fun _ _ _ h => h) (Or.inl ⟨by rfl, ?_⟩) ?_
      rotate_left
      · (intro W hS; (try dsimp only at hS); clear hS; go_simp; with_reducible rfl)
      try simp only [Act.put, List.getElem_toArray, List.getElem_cons_succ, List.getElem_cons_zero, List.setIfInBounds_toArray, List.set_cons_zero, List.set_cons_succ]
      refine WD_free (i := 5) (oi := _) (v := ?_) rfl (by kernel_rfl) (fun _ _ _ h => h) (Or.inl ⟨by rfl, ?_⟩) ?_
      rotate_left
      · (intro W hS; (try dsimp only at hS); clear hS; go_simp; with_reducible rfl)
      try simp only [Act.put, List.getElem_toArray, List.getElem_cons_succ, List.getElem_cons_zero, List.setIfInBounds_toArray, List.set_cons_zero, List.set_cons_succ]
      refine WD_free (i := 6) (oi := _) (v := ?_) rfl (by kernel_rfl) (fun _ _ _ h => h) (Or.inl ⟨by rfl, ?_⟩) ?_
      rotate_left
      · (intro W hS; (try dsimp only at hS); clear hS; go_simp; with_reducible rfl)
      try simp only [Act.put, List.getElem_toArray, List.getElem_cons_succ, List.getElem_cons_zero, List.setIfInBounds_toArray, List.set_cons_zero, List.set_cons_succ]
      refine WD_free (i := 7) (oi := _) (v := ?_) rfl (by kernel_rfl) (fun _ _ _ h => h) (Or.inl ⟨by rfl, ?_⟩) ?_
      rotate_left
      · (intro W hS; (try dsimp only at hS); clear hS; go_simp; with_reducible rfl)
      try simp only [Act.put, List.getElem_toArray, List.getElem_cons_succ, List.getElem_cons_zero, List.setIfInBounds_toArray, List.set_cons_zero, List.set_cons_succ]
      refine WD_step (i := 0) (o := _) rfl (by kernel_rfl) (fun K hK => ?_)
      go_simp
      have b1 : Below B.heap.size B (B.alloc (.cells #[] 46)).drew := ((Below.refl _ _).alloc (Nat.le_refl _) _).drew
      replace hHeld := b1
      have ho0 : (B.alloc (.cells #[] 46)).drew.ownsRow B.heap.size 46 2 (.slice (some ⟨B.heap.size, 0, none⟩) 0 0) 0 [] := World.ownsRow.drew (World.ownsRow_made B #[] 0 (Nat.le_refl _) (by decide) rfl)
      refine hK.out _ _ (fun _ _ => hHeld) ?_
      clear hK K
      try simp only [Act.put, List.getElem_toArray, List.getElem_cons_succ, List.getElem_cons_zero, List.setIfInBounds_toArray, List.set_cons_zero, List.set_cons_succ]
      refine WD_step (i := 4) (o := _) rfl (by kernel_rfl) (fun K hK => ?_)
      refine step_append_own rfl (.tmp 41) (.tmp 44) 44 rfl B.heap.size 46 i0 (.agg #[.int .i64 0, .int .i64 0]) 2 16 hu1 hi hz0 hz1 hz2 rfl (by decide) _ 0 _ rfl ho0 ⟨b, o + AT * 2, none⟩ (len0 - AT) (cap0 - AT) (flatI (z0.drop AT)) rfl (by rw [flatI_len, List.length_drop, HL.out]) (fun j u hj => ((HR.out.below HB.out (Nat.le_refl _)).below b1 (Nat.le_refl _)).dropP AT j u hj) (flatI_one' _) (by unfold maxLen; omega) (by omega) (by simp) ?_
      intro v1 w3 ho1 hg1
      have b2 : Below B.heap.size B w3 := b1.grown hg1 (by simp) (fun j hj => (ho0.lt j hj).1)
      replace hHeld := b2
      refine hK.out _ _ (fun _ _ => hHeld) ?_
      clear hK K
      try simp only [Act.put, List.getElem_toArray, List.getElem_cons_succ, List.getElem_cons_zero, List.setIfInBounds_toArray, List.set_cons_zero, List.set_cons_succ]
      refine WD_step (i := 8) (o := _) rfl (by kernel_rfl) (fun K hK => ?_)
      refine step_append_own rfl (.tmp 45) (.tmp 48) 44 rfl B.heap.size 46 i0 (.agg #[.int .i64 0, .int .i64 0]) 2 16 hu1 hi hz0 hz1 hz2 rfl (by decide) _ _ _ rfl ho1 ⟨b, o, none⟩ AT cap0 (flatI (z0.take AT)) rfl (by rw [flatI_len, List.length_take, HL.out, Nat.min_eq_left (Nat.le_of_lt at1)]) (fun j u hj => ((HR.out.below HB.out (Nat.le_refl _)).below b2 (Nat.le_refl _)).takeP AT j u hj) (flatI_one' _) (by unfold maxLen; omega) (by omega) hHeld.size ?_
      intro v2 w4 ho2 hg2
      have b3 : Below B.heap.size B w4 := b2.grown hg2 hHeld.size (fun j hj => (ho1.lt j hj).1)
      replace hHeld := b3
      refine hK.out _ _ (fun _ _ => hHeld) ?_
      clear hK K
      try simp only [Act.put, List.getElem_toArray, List.getElem_cons_succ, List.getElem_cons_zero, List.setIfInBounds_toArray, List.set_cons_zero, List.set_cons_succ]
      refine WD_free (i := 9) (oi := _) (v := ?_) rfl (by kernel_rfl) (fun _ _ _ h => h) (Or.inl ⟨by rfl, ?_⟩) ?_
      rotate_left
      · (intro W hS; (try dsimp only at hS); clear hS; go_simp; with_reducible rfl)
      try simp only [Act.put, List.getElem_toArray, List.getElem_cons_succ, List.getElem_cons_zero, List.setIfInBounds_toArray, List.set_cons_zero, List.set_cons_succ]
      refine WD_done (by kernel_rfl) ?_ _
      have ho : w4.ownsRow B.heap.size 46 2 v2 len0 (flatI (turnL z0 AT)) := by
        rw [show 0 + (len0 - AT) + AT = len0 by omega, List.nil_append, ← flatI_append] at ho2
        exact ho2
      have hbw4 := below_two HB.out hHeld
      have cu := HCell.out AT u HU.out
      obtain ⟨ux, um⟩ := u
      obtain ⟨cu1, cu2⟩ := cu
      simp only at cu1 cu2
      replace cu1 := (hbw4.cell (p := ⟨b, o + AT * 2, none⟩) (World.block_lt_of_cell? w _ cu1)).trans cu1
      replace cu2 := (hbw4.cell (p := ⟨b, o + AT * 2 + 1, none⟩) (World.block_lt_of_cell? w _ cu2)).trans cu2
      have d0 := kept hHeld c0 (World.block_lt_of_cell? B _ c0)
      have d1 := kept hHeld c1 (World.block_lt_of_cell? B _ c1)
      have z4 := hHeld.size
      have zr := World.block_lt_of_cell? B _ c0
      simp only at zr
      have HH := Lib.hid hHeld
      clear ho1 ho2 hg1 hg2 b1 b2 b3 hHeld hbw4 ho0
      go_wp2_with (at_builtin; refine wpList_append_own _ rfl _ _ 44 rfl B.heap.size 46 i0 (.agg #[.int .i64 0, .int .i64 0]) 2 16 hu1 hi hz0 hz1 hz2 rfl (by decide) _ _ _ rfl (ho.alloc _) ⟨w4.heap.size, 0, none⟩ 1 1 [.int .i64 ux, .int .i64 um] rfl rfl (cell_two_new w4 (.int .i64 ux) (.int .i64 um) 46) (by simp [Value.oneCell']) (by unfold maxLen; omega) (by omega) (by simp; omega) ?_; intro v5 w5 ho5 hg5 hnil5; obtain ⟨a5, c5, rfl, h5⟩ : ∃ a c, v5 = .slice a (len0 + 1) c ∧ RowP w5 a c (turnL z0 AT ++ [(ux, um)]) := own_rows5 (by rw [turn_len]; exact HL.out) ho5)
      have hb5 : Below B.heap.size B w5 := (HH.out.alloc HH.out.size _).grown hg5 (by simp; omega) (fun j hj => (ho.lt j hj).1)
      have s0 := kept hb5 c0 zr
      have s1 := kept hb5 c1 zr
      have z5 := hb5.size
      have hbw5 := below_two HB.out hb5
      have HS5 := Lib.hid (solve_any a5 c5 (turnL z0 AT ++ [(ux, um)]) w5 h5 (L := len0 + 1) (by rw [List.length_append, turn_len, HL.out]; rfl) (by omega))
      clear ho5 hg5 hnil5 h5 ho c0 c1 d0 d1 cu1 cu2 hb5
      refine HS5.out.mono ?_
      rintro e w6 ⟨⟨A', M', E', rfl, HA'⟩, hb6⟩
      obtain ⟨rfl, rfl, rfl⟩ := solE_same (fun v => turn_mem HU.out v) (by rw [HL.out]; omega) (by rw [List.length_append, turn_len, HL.out]; simp; omega) HA.out.1 HA'.out.1 (Classical.em _) HA.out.2 HA'.out.2
      have t0 := kept hb6 s0 (by omega)
      have t1' := kept hb6 s1 (by omega)
      have z6 := hb6.size
      have n1 : ¬ w1.heap.size = w6.heap.size := by omega
      have n2 : ¬ w6.heap.size = w1.heap.size := by omega
      have hbf : Below w.heap.size w (w6.alloc (.cells #[.int .i64 A, .int .i64 M] 46)) := (below_two hbw5 hb6).alloc (by omega) _
      have AA : Below w6.heap.size w6 (w6.alloc (.cells #[.int .i64 A, .int .i64 M] 46)) := (Below.refl _ _).alloc (Nat.le_refl _) _
      have y0 := kept AA t0 (by omega)
      have y1 := kept AA t1' (by omega)
      clear AA t0 t1'
      have key : (E = 0 ∧ 1 ≤ M) ∨ E ≠ 0 := by
        rcases HA.out.1 with ⟨h, c⟩ | ⟨h, _⟩
        · exact .inl ⟨h, c.m1⟩
        · exact .inr h
      clear hb6 s0 s1
      rcases key with ⟨rfl, hM⟩ | hE
      · go_wp2
        go_ret
        exact ⟨ret_bool (by simp), hbf⟩
      · have q1 : (E == 0) = false := by simpa using hE
        have q2 : (E != 0) = true := by simpa using hE
        clear hE
        go_wp2
        go_ret
        exact ⟨ret_bool (by simp), hbf⟩
end Go.Proofs.Ytceocooppjfjjaa
