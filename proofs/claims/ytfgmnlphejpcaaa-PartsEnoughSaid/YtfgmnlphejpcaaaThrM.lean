/- Plain: the polynomial through points. -/
import Derived.Test.YtfgmnlphejpcaaaDivM
import Derived.Test.YtfgmnlphejpcaaaWrong
namespace Go.Proofs.Ytfgmnlphejpcaaa
set_option linter.unusedVariables false
set_option linter.unusedSimpArgs false
theorem val_plus {p : Int} {a b : List Int} {k : Int} (hp : 1 ≤ p) (ha : ∀ x ∈ a, 0 ≤ x ∧ x < p) (t : Int) : valL p (plusL p a b k 0) t = (valL p a t + k * valL p b t) % p := by
  rw [valL_ev, ev_plus hp ha, valL_ev, valL_ev, Int.pow_zero, Int.mul_one, Int.add_emod, Int.mul_emod]
  conv => rhs; rw [Int.add_emod, Int.mul_emod, Int.emod_emod, Int.emod_emod]
theorem val_lin {p c : Int} {z : List Int} (hp : 1 ≤ p) (t : Int) : valL p (timesL p z [c, 1]) t = valL p z t * (c + t) % p := by
  rw [valL_ev, ev_times hp, valL_ev, Int.mul_emod]
  conv => rhs; rw [Int.mul_emod, Int.emod_emod]
  show _ * ((c + t * (1 + t * 0)) % p) % p = _
  simp
theorem val_rng' {p : Int} (hp : 1 ≤ p) (a : List Int) (t : Int) : 0 ≤ valL p a t ∧ valL p a t < p := horT_rng hp _
theorem timesL_len2 {p : Int} (hp : 1 ≤ p) (a b : List Int) : (timesL p a b).length ≤ a.length + b.length - 1 := by
  refine len_le (timesL_last _ _ _) fun i hi => ?_
  rw [co_times hp]
  unfold conv
  rw [SumI_zero fun j hj => by
    by_cases h1 : a.length ≤ j
    · rw [co_out h1, Int.zero_mul]
    · rw [co_out (a := b) (by omega), Int.mul_zero]]
  simp
/-- where the loop of Through stands -/
structure TInv (p : Int) (pts : List (Int × Int)) (I : Nat) (A Z : List Int) : Prop where
  ar : ∀ x ∈ A, 0 ≤ x ∧ x < p
  al : A.getLastD 1 ≠ 0
  an : A.length ≤ I
  zr : ∀ x ∈ Z, 0 ≤ x ∧ x < p
  zn : Z.length ≤ I + 1
  hit : ∀ (j : Nat) (v : Int × Int), j < I → pts[j]? = some v → valL p A v.1 = v.2
  zero : ∀ (j : Nat) (v : Int × Int), j < I → pts[j]? = some v → valL p Z v.1 = 0
  nz : ∀ t : Int, 0 ≤ t → t < p → (∀ (j : Nat) (v : Int × Int), j < I → pts[j]? = some v → v.1 ≠ t) → valL p Z t ≠ 0
theorem tinv_init {p : Int} (hp : 2 ≤ p) (pts : List (Int × Int)) : TInv p pts 0 [] [1] :=
  ⟨fun x hx => by simp at hx, by simp, Nat.le_refl _, fun x hx => by simp at hx; omega, by simp, fun j v hj => absurd hj (Nat.not_lt_zero _), fun j v hj => absurd hj (Nat.not_lt_zero _), fun t _ _ _ => by
    rw [valL_ev]; show (1 + t * 0) % p ≠ 0; rw [Int.mul_zero, Int.add_zero, Int.emod_eq_of_lt (by omega) (by omega)]; decide⟩
theorem hit_new {p a z i g k y : Int} (hp : 1 ≤ p) (hy : 0 ≤ y ∧ y < p) (hi : i * z % p = 1) (hg : g = (y - a) % p) (hk : k = g * i % p) : (a + k * z) % p = y := by
  have e1 := Int.mul_ediv_add_emod (i * z) p
  have e2 := Int.mul_ediv_add_emod (y - a) p
  have e3 := Int.mul_ediv_add_emod (g * i) p
  rw [hi] at e1
  rw [← hg] at e2
  rw [← hk] at e3
  obtain ⟨t1, ht1⟩ : ∃ t, i * z / p = t := ⟨_, rfl⟩
  obtain ⟨t2, ht2⟩ : ∃ t, (y - a) / p = t := ⟨_, rfl⟩
  obtain ⟨t3, ht3⟩ : ∃ t, g * i / p = t := ⟨_, rfl⟩
  rw [ht1] at e1; rw [ht2] at e2; rw [ht3] at e3
  have e : a + k * z = y + p * (g * t1 - t3 * z - t2) := by grind
  rw [e, Int.add_mul_emod_self_left, Int.emod_eq_of_lt hy.1 hy.2]
theorem tinv_step {p : Int} {pts : List (Int × Int)} {I : Nat} {A Z : List Int} (hpr : prB p = true) (hp : 2 ≤ p) (h : TInv p pts I A Z) (hnd : (pts.map (·.1)).Nodup) (hrg : ∀ v ∈ pts, 0 ≤ v.1 ∧ v.1 < p ∧ 0 ≤ v.2 ∧ v.2 < p)
    (x y : Int) (hv : pts[I]? = some (x, y)) : valL p Z x ≠ 0 ∧ ∀ (i g k : Int), i * valL p Z x % p = 1 → g = (y - valL p A x) % p → k = g * i % p → TInv p pts (I + 1) (plusL p A Z k 0) (timesL p Z [-x % p, 1]) := by
  have hp1 : 1 ≤ p := by omega
  obtain ⟨x1, x2, y1, y2⟩ := hrg _ (List.mem_of_getElem? hv)
  have hne : ∀ (j : Nat) (v : Int × Int), j < I → pts[j]? = some v → v.1 ≠ x := fun j v hj hvj e => by
    have h1 : (pts.map (·.1))[j]? = some x := by rw [List.getElem?_map, hvj]; simp [e]
    have h2 : (pts.map (·.1))[I]? = some x := by rw [List.getElem?_map, hv]; rfl
    obtain ⟨g1, e1⟩ := List.getElem?_eq_some_iff.1 h1
    obtain ⟨g2, e2⟩ := List.getElem?_eq_some_iff.1 h2
    have := (List.nodup_iff_pairwise_ne.1 hnd |> List.pairwise_iff_getElem.1) j I g1 g2 hj
    exact this (e1.trans e2.symm)
  have hz := h.nz x x1 x2 hne
  refine ⟨hz, fun i g k hi hg hk => ⟨plusL_rng hp1 h.ar, plusL_last _ _ _ _ _, ?_, timesL_rng hp1, ?_, ?_, ?_, ?_⟩⟩
  · have := plusL_len p A Z k 0
    have := h.an
    have := h.zn
    omega
  · have := timesL_len2 hp1 Z [-x % p, 1]
    have := h.zn
    simp at *
    omega
  · intro j v hj hvj
    rw [val_plus hp1 h.ar]
    by_cases e : j = I
    · subst e
      rw [hv] at hvj; cases hvj
      exact hit_new hp1 ⟨y1, y2⟩ hi hg hk
    · rw [h.zero j v (by omega) hvj, Int.mul_zero, Int.add_zero, h.hit j v (by omega) hvj]
      obtain ⟨_, _, q1, q2⟩ := hrg _ (List.mem_of_getElem? hvj)
      exact Int.emod_eq_of_lt q1 q2
  · intro j v hj hvj
    rw [val_lin hp1]
    by_cases e : j = I
    · subst e
      rw [hv] at hvj; cases hvj
      refine Int.emod_eq_zero_of_dvd (Int.dvd_mul_of_dvd_right (Int.dvd_of_emod_eq_zero ?_))
      rw [Int.emod_add_emod]; simp [Int.add_left_neg]
    · rw [h.zero j v (by omega) hvj, Int.zero_mul]; simp
  · intro t t1 t2 ht
    rw [val_lin hp1]
    have h1 := h.nz t t1 t2 fun j v hj hvj => ht j v (by omega) hvj
    have h2 : x ≠ t := ht I (x, y) (by omega) hv
    have h3 := val_rng' hp1 Z t
    have e : valL p Z t * (-x % p + t) % p = valL p Z t * ((t - x) % p) % p := by
      rw [Int.mul_emod, Int.emod_add_emod, ← Int.mul_emod, show -x + t = t - x by omega, Int.mul_emod]
      conv => rhs; rw [Int.mul_emod, Int.emod_emod]
    rw [e]
    have q1 := Int.emod_nonneg (t - x) (show p ≠ 0 by omega)
    have q2 := Int.emod_lt_of_pos (t - x) (show 0 < p by omega)
    refine prime_mul hpr hp h3 ⟨q1, q2⟩ h1 fun e0 => h2 ?_
    obtain ⟨q, hq⟩ := Int.dvd_of_emod_eq_zero e0
    have : q = 0 := by
      rcases Int.lt_trichotomy q 0 with h2 | h2 | h2
      · have := Int.mul_le_mul_of_nonneg_left (show q ≤ -1 by omega) (show (0 : Int) ≤ p by omega); omega
      · exact h2
      · have := Int.mul_le_mul_of_nonneg_left (show 1 ≤ q by omega) (show (0 : Int) ≤ p by omega); omega
    subst this
    omega
/-- many places are many -/
theorem cnt_ge {f : Nat → Bool} : ∀ (n : Nat) (l : List Nat), l.Nodup → (∀ x ∈ l, x < n ∧ f x = true) → l.length ≤ cnt n f
  | 0, l, _, h => by
    cases l with
    | nil => simp [cnt]
    | cons x t => exact absurd (h x (by simp)).1 (Nat.not_lt_zero _)
  | n + 1, l, hl, h => by
    unfold cnt
    by_cases hm : n ∈ l
    · have ih := cnt_ge (f := f) n (l.erase n) (hl.erase n) fun x hx => by
        have h1 := h x (List.mem_of_mem_erase hx)
        have h2 : x ≠ n := fun e => by subst e; exact absurd hx (List.Nodup.not_mem_erase hl)
        exact ⟨by omega, h1.2⟩
      rw [List.length_erase_of_mem hm] at ih
      rw [if_pos (h n hm).2]
      omega
    · have ih := cnt_ge (f := f) n l hl fun x hx => by
        have h1 := h x hx
        have h2 : x ≠ n := fun e => by subst e; exact hm hx
        exact ⟨by omega, h1.2⟩
      split <;> omega
/-- two polynomials that agree at as many places as they have numbers are one -/
theorem uniq_nil {p : Int} (hpr : prB p = true) (hp : 2 ≤ p) {A B : List Int} {n : Nat} (ha : ∀ x ∈ A, 0 ≤ x ∧ x < p) (la : A.length ≤ n) (lb : B.length ≤ n) (xs : List Int) (hx : xs.Nodup) (hxr : ∀ x ∈ xs, 0 ≤ x ∧ x < p) (hn : n ≤ xs.length)
    (h : ∀ x ∈ xs, valL p A x = valL p B x) : plusL p A B (-1) 0 = [] := by
  have hp1 : 1 ≤ p := by omega
  refine Decidable.byContradiction fun hne => ?_
  obtain ⟨P, rfl⟩ := Int.eq_ofNat_of_zero_le (show 0 ≤ p by omega)
  have hP : M.Pr P := by simpa using prB_true hpr
  have hl : 0 < (plusL (P : Int) A B (-1) 0).length := List.length_pos_iff.2 hne
  have hlen := plusL_len (P : Int) A B (-1) 0
  have hr := roots_le hP ((plusL (P : Int) A B (-1) 0).length - 1) (plusL (P : Int) A B (-1) 0) (by omega) (by
    obtain ⟨k, hk⟩ : ∃ k, (plusL (P : Int) A B (-1) 0).length = k + 1 := ⟨(plusL (P : Int) A B (-1) 0).length - 1, by omega⟩
    have h1 := plusL_last (P : Int) A B (-1) 0
    rw [getLastD_at (L := k) (List.getElem?_eq_getElem (by omega)) hk] at h1 ⊢
    have := plusL_rng (b := B) (k := -1) (up := 0) hp1 ha _ (List.getElem_mem (show k < (plusL (P : Int) A B (-1) 0).length by omega))
    rw [Int.emod_eq_of_lt this.1 this.2]; exact h1)
  have hc := cnt_ge (f := fun x => ev (plusL (P : Int) A B (-1) 0) x % (P : Int) == 0) P (xs.map Int.toNat) (by
    rw [List.nodup_iff_pairwise_ne, List.pairwise_map]
    refine (List.nodup_iff_pairwise_ne.1 hx).imp_of_mem fun {a b} ha hb hab e => hab ?_
    have := hxr a ha
    have := hxr b hb
    omega) (fun x hxm => by
      obtain ⟨y, hy, rfl⟩ := List.mem_map.1 hxm
      have hyr := hxr y hy
      refine ⟨by omega, ?_⟩
      have e : ((y.toNat : Nat) : Int) = y := by omega
      simp only [beq_iff_eq]
      rw [e, ← valL_ev, val_plus hp1 ha, h y hy]
      rw [show valL (P : Int) B y + -1 * valL (P : Int) B y = 0 by omega]; simp)
  rw [List.length_map] at hc
  omega
/-- two polynomials that agree at as many places as they have numbers, agree everywhere -/
theorem uniq_law {p : Int} (hpr : prB p = true) (hp : 2 ≤ p) {A B : List Int} {n : Nat} (ha : ∀ x ∈ A, 0 ≤ x ∧ x < p) (la : A.length ≤ n) (lb : B.length ≤ n) (xs : List Int) (hx : xs.Nodup) (hxr : ∀ x ∈ xs, 0 ≤ x ∧ x < p) (hn : n ≤ xs.length)
    (h : ∀ x ∈ xs, valL p A x = valL p B x) (t : Int) : valL p A t = valL p B t := by
  have hp1 : 1 ≤ p := by omega
  have hD := uniq_nil hpr hp ha la lb xs hx hxr hn h
  have e := val_plus (b := B) (k := -1) hp1 ha t
  rw [hD] at e
  have e2 : valL p [] t = 0 := by rw [valL_ev]; simp [ev]
  rw [e2] at e
  have h1 := val_rng' hp1 A t
  have h2 := val_rng' hp1 B t
  obtain ⟨q, hq⟩ := Int.dvd_of_emod_eq_zero e.symm
  have : q = 0 := by
    rcases Int.lt_trichotomy q 0 with h3 | h3 | h3
    · have := Int.mul_le_mul_of_nonneg_left (show q ≤ -1 by omega) (show (0 : Int) ≤ p by omega); omega
    · exact h3
    · have := Int.mul_le_mul_of_nonneg_left (show 1 ≤ q by omega) (show (0 : Int) ≤ p by omega); omega
  subst this
  omega
theorem eq_of_dvd_sub {p a b : Int} (ha : 0 ≤ a ∧ a < p) (hb : 0 ≤ b ∧ b < p) (h : (a + -1 * b) % p = 0) : a = b := by
  obtain ⟨q, hq⟩ := Int.dvd_of_emod_eq_zero h
  have : q = 0 := by
    rcases Int.lt_trichotomy q 0 with h3 | h3 | h3
    · have := Int.mul_le_mul_of_nonneg_left (show q ≤ -1 by omega) (show (0 : Int) ≤ p by omega); omega
    · exact h3
    · have := Int.mul_le_mul_of_nonneg_left (show 1 ≤ q by omega) (show (0 : Int) ≤ p by omega); omega
  subst this
  omega
theorem uniq_list {p : Int} (hpr : prB p = true) (hp : 2 ≤ p) {A B : List Int} {n : Nat} (ha : ∀ x ∈ A, 0 ≤ x ∧ x < p) (hb : ∀ x ∈ B, 0 ≤ x ∧ x < p) (al : A.getLastD 1 ≠ 0) (bl : B.getLastD 1 ≠ 0) (la : A.length ≤ n) (lb : B.length ≤ n) (xs : List Int) (hx : xs.Nodup) (hxr : ∀ x ∈ xs, 0 ≤ x ∧ x < p) (hn : n ≤ xs.length)
    (h : ∀ x ∈ xs, valL p A x = valL p B x) : A = B := by
  have hp1 : 1 ≤ p := by omega
  have hD := uniq_nil hpr hp ha la lb xs hx hxr hn h
  refine co_inj al bl fun i => eq_of_dvd_sub (co_rng hp1 ha i) (co_rng hp1 hb i) ?_
  have e := co_plus (b := B) (k := -1) (up := 0) hp1 ha i
  rw [hD, co_out (by simp), if_pos (Nat.zero_le _), Nat.sub_zero] at e
  exact e.symm
end Go.Proofs.Ytfgmnlphejpcaaa
