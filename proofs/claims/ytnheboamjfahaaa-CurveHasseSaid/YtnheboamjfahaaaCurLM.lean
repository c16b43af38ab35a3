/- Plain: as many times a spot as there are spots is the far one. -/
import Derived.Test.YtnheboamjfahaaaCurA
import Derived.Test.YtnheboamjfahaaaPrimM
import Derived.Test.YtnheboamjfahaaaLiM
namespace Go.Proofs.Ytnheboamjfahaaa
set_option linter.unusedVariables false
set_option linter.unusedSimpArgs false
/-- so many times a spot -/
def mulS (N : Nat) (A : Int) : Nat → Sp → Sp
  | 0, _ => farS
  | k + 1, s => addS N A s (mulS N A k s)
def sumS (N : Nat) (A : Int) (l : List Sp) : Sp := l.foldr (addS N A) farS
section
variable {N : Nat} {A B : Int}
theorem mulS_on (hp : M.Pr N) (h5 : 5 ≤ N) {s : Sp} (hs : OnC N A B s) : ∀ k, OnC N A B (mulS N A k s)
  | 0 => OnC.farS N A B
  | k + 1 => OnC.add hp h5 hs (mulS_on hp h5 hs k)
theorem sumS_on (hp : M.Pr N) (h5 : 5 ≤ N) : ∀ l : List Sp, (∀ s ∈ l, OnC N A B s) → OnC N A B (sumS N A l)
  | [], _ => OnC.farS N A B
  | s :: l, h => OnC.add hp h5 (h s (by simp)) (sumS_on hp h5 l fun t ht => h t (by simp [ht]))
theorem left_comm (hp : M.Pr N) (h5 : 5 ≤ N) (hd : ¬ (N : Int) ∣ 4 * A * A * A + 27 * B * B) {p q o : Sp} (h1 : OnC N A B p) (h2 : OnC N A B q) (h3 : OnC N A B o) :
    addS N A p (addS N A q o) = addS N A q (addS N A p o) := by
  rw [← add_assoc hp h5 hd h1 h2 h3, add_comm hp h5 h1 h2, add_assoc hp h5 hd h2 h1 h3]
theorem sumS_perm (hp : M.Pr N) (h5 : 5 ≤ N) (hd : ¬ (N : Int) ∣ 4 * A * A * A + 27 * B * B) {l m : List Sp} (h : l.Perm m) : (∀ s ∈ l, OnC N A B s) → sumS N A l = sumS N A m := by
  induction h with
  | nil => intro _; rfl
  | cons x hl ih => intro hs; show addS N A x (sumS N A _) = addS N A x (sumS N A _); rw [ih fun t ht => hs t (by simp [ht])]
  | swap x y l => intro hs; exact left_comm hp h5 hd (hs y (by simp)) (hs x (by simp)) (sumS_on hp h5 l fun t ht => hs t (by simp [ht]))
  | trans h1 h2 ih1 ih2 => intro hs; rw [ih1 hs, ih2 fun t ht => hs t (h1.mem_iff.2 ht)]
theorem sumS_map (hp : M.Pr N) (h5 : 5 ≤ N) (hd : ¬ (N : Int) ∣ 4 * A * A * A + 27 * B * B) {s : Sp} (hs : OnC N A B s) : ∀ l : List Sp, (∀ t ∈ l, OnC N A B t) → sumS N A (l.map (addS N A s)) = addS N A (mulS N A l.length s) (sumS N A l)
  | [], _ => by show farS = addS N A farS farS; rw [far_add]
  | t :: l, h => by
    have ht := h t (by simp)
    have hl : ∀ t ∈ l, OnC N A B t := fun t ht => h t (by simp [ht])
    have hm := mulS_on hp h5 hs l.length
    have hu := sumS_on hp h5 l hl
    show addS N A (addS N A s t) (sumS N A (l.map (addS N A s))) = addS N A (addS N A s (mulS N A l.length s)) (addS N A t (sumS N A l))
    rw [sumS_map hp h5 hd hs l hl, add_assoc hp h5 hd hs ht (OnC.add hp h5 hm hu), add_assoc hp h5 hd hs hm (OnC.add hp h5 ht hu), left_comm hp h5 hd ht hm hu]
theorem cancel_eq (hp : M.Pr N) (h5 : 5 ≤ N) (hd : ¬ (N : Int) ∣ 4 * A * A * A + 27 * B * B) {s t u : Sp} (hs : OnC N A B s) (ht : OnC N A B t) (hu : OnC N A B u) (h : addS N A s t = addS N A s u) : t = u := by
  rw [← cancel hp h5 hd hs ht, h, cancel hp h5 hd hs hu]
/-- LAGRANGE -/
theorem lagrange (hp : M.Pr N) (h5 : 5 ≤ N) (hd : ¬ (N : Int) ∣ 4 * A * A * A + 27 * B * B) {L : List Sp} (hn : L.Nodup) (hL : ∀ s, s ∈ L ↔ OnC N A B s) {s : Sp} (hs : OnC N A B s) : mulS N A L.length s = farS := by
  have hon : ∀ t ∈ L, OnC N A B t := fun t h => (hL t).1 h
  have hnm : (L.map (addS N A s)).Nodup := M.nodup_map _ _ hn fun x hx y hy h => cancel_eq hp h5 hd hs (hon x hx) (hon y hy) h
  have hperm : (L.map (addS N A s)).Perm L := M.perm_of_inj _ _ hnm (fun x hx => by
    obtain ⟨t, ht, rfl⟩ := List.mem_map.1 hx
    exact (hL _).2 (OnC.add hp h5 hs (hon t ht))) (by simp)
  have h1 := sumS_perm hp h5 hd hperm fun t ht => hon t (hperm.mem_iff.1 ht)
  rw [sumS_map hp h5 hd hs L hon] at h1
  have hT := sumS_on hp h5 L hon
  have hm := mulS_on (A := A) hp h5 hs L.length
  refine cancel_eq hp h5 hd hT hm (OnC.farS N A B) ?_
  rw [add_comm hp h5 hT hm, h1, add_far hT]
theorem mulS_add (hp : M.Pr N) (h5 : 5 ≤ N) (hd : ¬ (N : Int) ∣ 4 * A * A * A + 27 * B * B) {s : Sp} (hs : OnC N A B s) (j : Nat) : ∀ k, mulS N A (k + j) s = addS N A (mulS N A k s) (mulS N A j s)
  | 0 => by show mulS N A (0 + j) s = addS N A farS _; rw [far_add, Nat.zero_add]
  | k + 1 => by
    rw [show k + 1 + j = k + j + 1 by omega]
    show addS N A s (mulS N A (k + j) s) = addS N A (addS N A s (mulS N A k s)) _
    rw [mulS_add hp h5 hd hs j k, add_assoc hp h5 hd hs (mulS_on hp h5 hs k) (mulS_on hp h5 hs j)]
theorem mulS_two (hp : M.Pr N) (h5 : 5 ≤ N) (hd : ¬ (N : Int) ∣ 4 * A * A * A + 27 * B * B) {s : Sp} (hs : OnC N A B s) : ∀ k, mulS N A (2 * k) s = mulS N A k (addS N A s s)
  | 0 => rfl
  | k + 1 => by
    show addS N A s (addS N A s (mulS N A (2 * k) s)) = addS N A (addS N A s s) (mulS N A k (addS N A s s))
    have h := mulS_on (A := A) hp h5 hs (2 * k)
    rw [← add_assoc hp h5 hd hs hs h, mulS_two hp h5 hd hs k]
/-- one step of the doubling: what holds of (the sum so far, what is left, the spot) -/
theorem times_step (hp : M.Pr N) (h5 : 5 ≤ N) (hd : ¬ (N : Int) ∣ 4 * A * A * A + 27 * B * B) {u s r : Sp} (hu : OnC N A B u) (hs : OnC N A B s) {k : Nat} (h : addS N A u (mulS N A k s) = r) :
    addS N A (if k % 2 = 1 then addS N A u s else u) (mulS N A (k / 2) (addS N A s s)) = r := by
  rw [← mulS_two hp h5 hd hs, ← h]
  by_cases e : k % 2 = 1
  · rw [if_pos e]
    have hm := mulS_on (A := A) hp h5 hs (2 * (k / 2))
    rw [add_assoc hp h5 hd hu hs hm]
    congr 1
    have : k = 2 * (k / 2) + 1 := by omega
    rw (occs := .pos [2]) [this]
    rfl
  · rw [if_neg e, show 2 * (k / 2) = k by omega]
end
/-- the roots of a number -/
def rootsN (N : Nat) (r : Int) : List Nat := (List.range N).filter fun y => decide (((y : Int) * y - r) % N = 0)
theorem mem_rootsN {N : Nat} {r : Int} {y : Nat} : y ∈ rootsN N r ↔ y < N ∧ (N : Int) ∣ (y : Int) * y - r := by
  unfold rootsN
  rw [List.mem_filter, List.mem_range, decide_eq_true_eq]
  exact ⟨fun h => ⟨h.1, Int.dvd_of_emod_eq_zero h.2⟩, fun h => ⟨h.1, Int.emod_eq_zero_of_dvd h.2⟩⟩
theorem rootsN_nodup (N : Nat) (r : Int) : (rootsN N r).Nodup := List.Pairwise.filter _ List.nodup_range
theorem jac_zero_dvd {N : Nat} (hp : M.Pr N) {r : Int} : M.jac r N = 0 ↔ (N : Int) ∣ r := by
  rw [M.jac_zero_iff]
  constructor
  · intro h
    refine Decidable.byContradiction fun hd => h ?_
    rw [Int.gcd_comm]; exact hp.gcd_int hd
  · intro h e
    have h1 : (N : Int) ∣ ((Int.gcd r N : Nat) : Int) := Int.dvd_coe_gcd h (Int.dvd_refl _)
    rw [e] at h1
    have := Int.le_of_dvd (by decide) h1
    have := hp.1
    omega
theorem jac_square {N : Nat} (hp : M.Pr N) (ho : N % 2 = 1) {r y : Int} (h : (N : Int) ∣ y * y - r) (hr : ¬ (N : Int) ∣ r) : M.jac r N = 1 := by
  have h2 := hp.1
  rw [← M.jac_congr h, M.jac_mul (by omega) (by omega)]
  refine M.jac_sq ?_
  rw [Int.gcd_comm]
  exact hp.gcd_int fun hy => hr (dv2 h (Int.dvd_trans hy (Int.dvd_mul_left y y)) (-1) 1 (by grind))
/-- a number that Legendre has 1 of has a root -/
theorem root_of_jac {N : Nat} (hp : M.Pr N) (ho : N % 2 = 1) {r : Int} (h : M.jac r N = 1) : ∃ y : Nat, y < N ∧ (N : Int) ∣ (y : Int) * y - r := by
  have h2 := hp.1
  have hr : ¬ (N : Int) ∣ r := fun hd => by rw [(jac_zero_dvd hp).2 hd] at h; cases h
  obtain ⟨g, g1, g2, hg⟩ := M.prim_root hp
  obtain ⟨e, he, hge⟩ := M.prim_all hp hg hr
  have hgj : M.jac g N = -1 := by
    rcases M.jac_cases g N with c | c | c
    · have := Int.le_of_dvd (by omega) ((jac_zero_dvd hp).1 c); omega
    · have hc := M.euler_crit hp ho g
      rw [c] at hc
      have h3 := hg.2.2 ((N - 1) / 2)
      exact absurd (Nat.le_of_dvd (by omega) (h3 (Int.emod_eq_emod_iff_emod_sub_eq_zero.2 (Int.emod_eq_zero_of_dvd hc)))) (by omega)
    · exact c
  have hpw : M.jac (g ^ e) N = (-1) ^ e := by rw [M.jac_pow (by omega) (by omega), hgj]
  have hje : M.jac (g ^ e) N = 1 := by
    rw [← M.jac_emod, hge, M.jac_emod, h]
  rw [hje] at hpw
  have hev : e % 2 = 0 := by
    rcases Nat.mod_two_eq_zero_or_one e with c | c
    · exact c
    · exfalso
      have : e = 2 * (e / 2) + 1 := by omega
      rw [this, Int.pow_succ, Int.pow_mul, show ((-1 : Int) ^ 2) = 1 by decide, Int.one_pow] at hpw
      omega
  refine ⟨((g ^ (e / 2)) % N).toNat, ?_, ?_⟩
  · have := Int.emod_lt_of_pos (g ^ (e / 2)) (show (0 : Int) < N by omega)
    have := Int.emod_nonneg (g ^ (e / 2)) (show (N : Int) ≠ 0 by omega)
    omega
  · have hn := Int.emod_nonneg (g ^ (e / 2)) (show (N : Int) ≠ 0 by omega)
    rw [Int.toNat_of_nonneg hn]
    obtain ⟨z, hz⟩ : ∃ z, g ^ (e / 2) = z := ⟨_, rfl⟩
    have hzz : g ^ e = z * z := by rw [← hz, ← Int.pow_add]; congr 1; omega
    rw [hz]
    rw [hzz] at hge
    have h1 := emod_dvd z N
    have h3 : (N : Int) ∣ z * z - r := Int.dvd_of_emod_eq_zero (Int.emod_eq_emod_iff_emod_sub_eq_zero.1 hge)
    exact dv2 h1 h3 (z % N + z) 1 (by grind)
theorem roots_len {N : Nat} (hp : M.Pr N) (ho : N % 2 = 1) (r : Int) : ((rootsN N r).length : Int) = 1 + M.jac r N := by
  have h2 := hp.1
  by_cases hr : (N : Int) ∣ r
  · rw [(jac_zero_dvd hp).2 hr]
    have hperm : (rootsN N r).Perm [0] := (List.perm_ext_iff_of_nodup (rootsN_nodup N r) (by simp)).2 fun y => by
      rw [mem_rootsN, List.mem_singleton]
      constructor
      · rintro ⟨h1, h3⟩
        have hyy : (N : Int) ∣ (y : Int) * y := dv2 h3 hr 1 1 (by grind)
        have hy : (N : Int) ∣ (y : Int) := (hp.dvd_mul_int hyy).elim id id
        have : N ∣ y := by exact_mod_cast hy
        exact Nat.eq_zero_of_dvd_of_lt this h1
      · rintro rfl
        exact ⟨by omega, dv1 hr (-1) (by grind)⟩
    rw [hperm.length_eq]; rfl
  · rcases M.jac_cases r N with c | c | c
    · exact absurd ((jac_zero_dvd hp).1 c) hr
    · obtain ⟨s, s1, s2⟩ := root_of_jac hp ho c
      have s0 : s ≠ 0 := fun e => hr (by subst e; exact dv1 s2 (-1) (by grind))
      have hperm : (rootsN N r).Perm [s, N - s] := (List.perm_ext_iff_of_nodup (rootsN_nodup N r) (by simp; omega)).2 fun y => by
        rw [mem_rootsN, List.mem_cons, List.mem_singleton]
        constructor
        · rintro ⟨h1, h3⟩
          have hd : (N : Int) ∣ ((y : Int) - s) * (y + s) := dv2 h3 s2 1 (-1) (by grind)
          rcases hp.dvd_mul_int hd with h | h
          · left
            have := rng_eq (N := N) (a := y) (b := s) (by omega) (by omega) (by omega) (by omega) h
            omega
          · right
            obtain ⟨q, hq⟩ := h
            have q1 : 0 < q := by
              refine Decidable.byContradiction fun hc => ?_
              have : (N : Int) * q ≤ 0 := Int.mul_nonpos_of_nonneg_of_nonpos (by omega) (by omega)
              omega
            have q2 : q < 2 := by
              refine Decidable.byContradiction fun hc => ?_
              have : (N : Int) * 2 ≤ N * q := Int.mul_le_mul_of_nonneg_left (by omega) (by omega)
              omega
            have : q = 1 := by omega
            subst this; omega
        · rintro (rfl | rfl)
          · exact ⟨s1, s2⟩
          · refine ⟨by omega, ?_⟩
            rw [show ((N - s : Nat) : Int) = (N : Int) - s by omega]
            exact dv2 s2 (Int.dvd_refl (N : Int)) 1 (N - 2 * s) (by grind)
      rw [hperm.length_eq, c]; rfl
    · have : rootsN N r = [] := List.eq_nil_iff_forall_not_mem.2 fun y hy => by
        rw [jac_square hp ho (mem_rootsN.1 hy).2 hr] at c; cases c
      rw [this, c]; rfl
/-- all spots of a curve -/
def spotsL (N : Nat) (A B : Int) : List Sp := farS :: (List.range N).flatMap fun x : Nat => (rootsN N ((x : Int) * x * x + A * x + B)).map fun y : Nat => (⟨x, y, false⟩ : Sp)
theorem spotsL_mem {N : Nat} {A B : Int} {s : Sp} : s ∈ spotsL N A B ↔ OnC N A B s := by
  unfold spotsL
  rw [List.mem_cons, List.mem_flatMap]
  constructor
  · rintro (rfl | ⟨x, hx, hm⟩)
    · exact OnC.farS N A B
    · obtain ⟨y, hy, rfl⟩ := List.mem_map.1 hm
      rw [List.mem_range] at hx
      obtain ⟨h1, h2⟩ := mem_rootsN.1 hy
      exact .inr ⟨rfl, by show (0 : Int) ≤ x; omega, by show (x : Int) < N; omega, by show (0 : Int) ≤ y; omega, by show (y : Int) < N; omega, h2⟩
  · intro h
    rcases h.cases with e | h
    · exact .inl e
    · right
      obtain ⟨x, y, f⟩ := s
      obtain ⟨h1, h2, h3, h4, h5, h6⟩ := h
      simp only at h1 h2 h3 h4 h5 h6
      subst h1
      obtain ⟨X, rfl⟩ := Int.eq_ofNat_of_zero_le h2
      obtain ⟨Y, rfl⟩ := Int.eq_ofNat_of_zero_le h4
      exact ⟨X, List.mem_range.2 (by omega), List.mem_map.2 ⟨Y, mem_rootsN.2 ⟨by omega, h6⟩, rfl⟩⟩
theorem spotsL_nodup (N : Nat) (A B : Int) : (spotsL N A B).Nodup := by
  unfold spotsL
  rw [List.nodup_cons]
  constructor
  · rw [List.mem_flatMap]
    rintro ⟨x, _, hm⟩
    obtain ⟨y, _, e⟩ := List.mem_map.1 hm
    have := congrArg Sp.far e
    cases this
  · refine List.pairwise_flatMap.2 ⟨fun x _ => M.nodup_map _ _ (rootsN_nodup N _) fun y _ z _ h => by have := congrArg Sp.y h; simp only at this; omega, ?_⟩
    refine List.Pairwise.imp ?_ (List.nodup_range (n := N))
    intro x x' hne s hs t ht e
    obtain ⟨y, _, rfl⟩ := List.mem_map.1 hs
    obtain ⟨z, _, rfl⟩ := List.mem_map.1 ht
    have := congrArg Sp.x e
    simp only at this
    omega
/-- the sum that Count forms -/
def cntS (N : Nat) (A B : Int) : Nat → Int
  | 0 => 1
  | k + 1 => cntS N A B k + (1 + M.jac ((((k : Int) * k % N + A) * k % N + B) % N) N)
theorem right_jac (N : Nat) (A B x : Int) : M.jac (((x * x % N + A) * x % N + B) % N) N = M.jac (x * x * x + A * x + B) N := by
  refine M.jac_congr ?_
  have e1 := emod_dvd (x * x) N
  have e2 := emod_dvd ((x * x % N + A) * x) N
  have e3 := emod_dvd ((x * x % N + A) * x % N + B) N
  exact dv3 e1 e2 e3 x 1 1 (by grind)
theorem cntS_len {N : Nat} (hp : M.Pr N) (ho : N % 2 = 1) (A B : Int) : cntS N A B N = (spotsL N A B).length := by
  have h : ∀ k, cntS N A B k = 1 + (((List.range k).flatMap fun x : Nat => (rootsN N ((x : Int) * x * x + A * x + B)).map fun y : Nat => (⟨x, y, false⟩ : Sp)).length : Int) := by
    intro k
    induction k with
    | zero => rfl
    | succ k ih =>
      show cntS N A B k + _ = _
      rw [ih, right_jac, ← roots_len hp ho, List.range_succ, List.flatMap_append, List.length_append]
      simp
      omega
  rw [h N]
  unfold spotsL
  simp
  omega
theorem cntS_bd (N : Nat) (A B : Int) : ∀ k, 1 ≤ cntS N A B k ∧ cntS N A B k ≤ 1 + 2 * k
  | 0 => ⟨by show (1 : Int) ≤ 1; omega, by show (1 : Int) ≤ 1 + 2 * 0; omega⟩
  | k + 1 => by
    have := cntS_bd N A B k
    rcases M.jac_cases ((((k : Int) * k % N + A) * k % N + B) % N) N with c | c | c <;>
      (show 1 ≤ cntS N A B k + (1 + M.jac ((((k : Int) * k % N + A) * k % N + B) % N) N) ∧ cntS N A B k + (1 + M.jac ((((k : Int) * k % N + A) * k % N + B) % N) N) ≤ _; rw [c]; omega)
end Go.Proofs.Ytnheboamjfahaaa
