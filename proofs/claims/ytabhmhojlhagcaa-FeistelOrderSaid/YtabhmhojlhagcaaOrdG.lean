/- Plain: the loops of feistel.Order. -/
import Derived.Test.YtabhmhojlhagcaaOrdF
namespace Go.Proofs.Ytabhmhojlhagcaa.F
set_option linter.unusedVariables false
set_option linter.unusedSimpArgs false
/-- behind the numbers below X -/
structure OInv (f : Nat → Nat) (X : Nat) (s : Nat → Bool) (O : Nat) (D : List Nat) : Prop where
  seen : ∀ y, y < X → s y = true
  cl : ∀ y, y < 256 → s (f y) = s y
  pos : 1 ≤ O
  back : ∀ y, y < 256 → s y = true → it f O y = y
  least : ∀ d, (∀ y, y < 256 → s y = true → it f d y = y) → O ∣ d
  nd : D.Nodup
  one : ∀ x ∈ D, 1 ≤ x ∧ x ∣ O
  sum : D.sum ≤ cnt s 256
  dv : O ∣ 6 * prodW D
theorem OInv.init (f : Nat → Nat) : OInv f 0 (fun _ => false) 1 [] where
  seen := fun y hy => absurd hy (Nat.not_lt_zero _)
  cl := fun y _ => rfl
  pos := Nat.le_refl 1
  back := fun y _ h => by cases h
  least := fun d _ => Nat.one_dvd d
  nd := List.nodup_nil
  one := fun x hx => by cases hx
  sum := Nat.zero_le _
  dv := Nat.one_dvd _
theorem OInv.lt {f : Nat → Nat} {X : Nat} {s : Nat → Bool} {O : Nat} {D : List Nat} (h : OInv f X s O D) : O < 2 ^ 62 := by
  have h1 := Nat.le_trans h.sum (cnt_le s 256)
  have h2 := fits_all h.nd (fun x hx => (h.one x hx).1) h1
  have h3 : 0 < prodW D := by
    unfold prodW
    have hd := h.one
    clear h h1 h2
    induction D with
    | nil => exact Nat.one_pos
    | cons d t ih =>
      have hd1 := (hd d (by simp)).1
      refine Nat.mul_pos ?_ (ih fun x hx => hd x (List.mem_cons_of_mem _ hx))
      unfold wt
      exact Nat.div_pos (Nat.gcd_le_left _ hd1) (Nat.gcd_pos_of_pos_left _ hd1)
  exact Nat.lt_of_le_of_lt (Nat.le_of_dvd (by omega) h.dv) h2
/-- within the cycle of x -/
structure CInv (f : Nat → Nat) (s : Nat → Bool) (x k : Nat) (t : Nat → Bool) : Prop where
  iff : ∀ z, z < 256 → (t z = true ↔ s z = true ∨ ∃ j, j < k ∧ it f j x = z)
  far : ∀ j, 1 ≤ j → j < k → it f j x ≠ x
  num : cnt t 256 = cnt s 256 + k
theorem CInv.init (f : Nat → Nat) (s : Nat → Bool) (x : Nat) : CInv f s x 0 s where
  iff := fun z _ => ⟨fun h => .inl h, fun h => h.elim id fun ⟨j, hj, _⟩ => absurd hj (Nat.not_lt_zero _)⟩
  far := fun j h1 h2 => by omega
  num := (Nat.add_zero _).symm
theorem CInv.size {f : Nat → Nat} {s t : Nat → Bool} {x k : Nat} (h : CInv f s x k t) : k ≤ 256 := by
  have := cnt_le t 256
  have := h.num
  omega
theorem CInv.step {f g : Nat → Nat} (hp : Perm f g) {s t : Nat → Bool} {x k : Nat} (hx : x < 256) (h : CInv f s x k t) (hs : t (it f k x) = false) : CInv f s x (k + 1) (see t (it f k x)) where
  iff := fun z hz => by
    unfold see
    by_cases e : z = it f k x
    · rw [if_pos e]
      exact ⟨fun _ => .inr ⟨k, by omega, e.symm⟩, fun _ => rfl⟩
    · rw [if_neg e, h.iff z hz]
      constructor
      · rintro (h1 | ⟨j, hj, e2⟩)
        · exact .inl h1
        · exact .inr ⟨j, by omega, e2⟩
      · rintro (h1 | ⟨j, hj, e2⟩)
        · exact .inl h1
        · refine .inr ⟨j, ?_, e2⟩
          have : j ≠ k := fun ej => e (by rw [← e2, ej])
          omega
  far := fun j h1 h2 => by
    by_cases e : j = k
    · subst e
      intro h3
      have := (h.iff x hx).2 (.inr ⟨0, by omega, rfl⟩)
      rw [h3, this] at hs; cases hs
    · exact h.far j h1 (by omega)
  num := by rw [cnt_see hs (hp.it_lt hx k), h.num]; omega
theorem cl_it {f g : Nat → Nat} (hp : Perm f g) {s : Nat → Bool} (hc : ∀ y, y < 256 → s (f y) = s y) {x : Nat} (hx : x < 256) : ∀ k, s (it f k x) = s x
  | 0 => rfl
  | k + 1 => by show s (f (it f k x)) = s x; rw [hc _ (hp.it_lt hx k), cl_it hp hc hx k]
/-- the cycle is through -/
theorem CInv.done {f g : Nat → Nat} (hp : Perm f g) {s t : Nat → Bool} {x k : Nat} (hx : x < 256) (hc : ∀ y, y < 256 → s (f y) = s y) (hsx : s x = false) (h : CInv f s x k t) (hs : t (it f k x) = true) : 1 ≤ k ∧ it f k x = x := by
  rcases (h.iff _ (hp.it_lt hx k)).1 hs with h1 | ⟨j, hj, e⟩
  · rw [cl_it hp hc hx k, hsx] at h1; cases h1
  · have h2 := hp.it_cancel hx (show j ≤ k by omega) e.symm
    by_cases h0 : j = 0
    · subst h0; exact ⟨by omega, h2⟩
    · exact absurd h2 (h.far (k - j) (by omega) (by omega))
theorem period {f g : Nat → Nat} (hp : Perm f g) {x k d : Nat} (hx : x < 256) (h1 : 1 ≤ k) (hk : it f k x = x) (hf : ∀ j, 1 ≤ j → j < k → it f j x ≠ x) (hd : it f d x = x) : k ∣ d := by
  have e : it f (d % k) x = x := by
    have e2 := Nat.div_add_mod d k
    rw [← e2, Nat.add_comm, it_add, it_mul hk] at hd
    exact hd
  refine Nat.dvd_of_mod_eq_zero ?_
  refine Nat.eq_zero_of_not_pos fun h0 => hf (d % k) h0 (Nat.mod_lt _ (by omega)) e
/-- the next number -/
theorem OInv.next {f g : Nat → Nat} (hp : Perm f g) {X : Nat} {s t : Nat → Bool} {O k : Nat} {D : List Nat} (hX : X < 256) (h : OInv f X s O D) (hsx : s X = false) (hC : CInv f s X k t) (h1 : 1 ≤ k) (hk : it f k X = X) :
    ∃ D', OInv f (X + 1) t (Nat.lcm O k) D' := by
  have hper := fun d => period hp (d := d) hX h1 hk hC.far
  have hts : ∀ z, z < 256 → s z = true → t z = true := fun z hz hs => (hC.iff z hz).2 (.inl hs)
  have hpos : 1 ≤ Nat.lcm O k := Nat.lcm_pos h.pos h1
  have hd1 : O ∣ Nat.lcm O k := Nat.dvd_lcm_left ..
  have hd2 : k ∣ Nat.lcm O k := Nat.dvd_lcm_right ..
  have seen : ∀ y, y < X + 1 → t y = true := fun y hy => by
    by_cases e : y = X
    · subst e; exact (hC.iff y hX).2 (.inr ⟨0, h1, rfl⟩)
    · exact hts y (by omega) (h.seen y (by omega))
  have hwrap : ∀ j, j ≤ k → ∃ i, i < k ∧ it f i X = it f j X := fun j hj => by
    by_cases e : j = k
    · subst e; exact ⟨0, h1, hk.symm⟩
    · exact ⟨j, by omega, rfl⟩
  have cl : ∀ y, y < 256 → t (f y) = t y := fun y hy => by
    rw [Bool.eq_iff_iff, hC.iff _ (hp.lt y hy), hC.iff y hy, h.cl y hy]
    constructor
    · rintro (h2 | ⟨j, hj, e⟩)
      · exact .inl h2
      · right
        cases j with
        | zero =>
          refine ⟨k - 1, by omega, hp.inj (hp.it_lt hX _) hy ?_⟩
          show it f (k - 1 + 1) X = f y
          rw [show k - 1 + 1 = k by omega, hk]; exact e
        | succ j => exact ⟨j, by omega, hp.inj (hp.it_lt hX _) hy e⟩
    · rintro (h2 | ⟨j, hj, e⟩)
      · exact .inl h2
      · right
        obtain ⟨i, hi, e2⟩ := hwrap (j + 1) (by omega)
        exact ⟨i, hi, by rw [e2, ← e]; rfl⟩
  have back : ∀ y, y < 256 → t y = true → it f (Nat.lcm O k) y = y := fun y hy ht => by
    rcases (hC.iff y hy).1 ht with h2 | ⟨j, hj, e⟩
    · exact it_dvd (h.back y hy h2) hd1
    · refine it_dvd (a := k) ?_ hd2
      rw [← e, ← it_add, Nat.add_comm, it_add, hk]
  have least : ∀ d, (∀ y, y < 256 → t y = true → it f d y = y) → Nat.lcm O k ∣ d := fun d hd =>
    Nat.lcm_dvd (h.least d fun y hy hs => hd y hy (hts y hy hs)) (hper d (hd X hX (seen X (by omega))))
  by_cases hm : k ∈ D
  · have e : Nat.lcm O k = O := Nat.dvd_antisymm (Nat.lcm_dvd (Nat.dvd_refl O) (h.one k hm).2) hd1
    exact ⟨D, seen, cl, hpos, back, least, h.nd, fun x hx => ⟨(h.one x hx).1, Nat.dvd_trans (h.one x hx).2 hd1⟩, Nat.le_trans h.sum (by rw [hC.num]; omega), by rw [e]; exact h.dv⟩
  · refine ⟨k :: D, seen, cl, hpos, back, least, List.nodup_cons.2 ⟨hm, h.nd⟩, fun x hx => ?_, ?_, ?_⟩
    · rcases List.mem_cons.1 hx with e | e
      · subst e; exact ⟨h1, hd2⟩
      · exact ⟨(h.one x e).1, Nat.dvd_trans (h.one x e).2 hd1⟩
    · rw [List.sum_cons, hC.num]; have := h.sum; omega
    · have e : prodW (k :: D) = wt k * prodW D := rfl
      rw [e]
      have h0 : 6 * (wt k * prodW D) = wt k * (6 * prodW D) := by ac_rfl
      have h2 : O ∣ 6 * (wt k * prodW D) := by rw [h0]; exact Nat.dvd_mul_left_of_dvd h.dv _
      have h3 : k ∣ 6 * (wt k * prodW D) := by rw [← Nat.mul_assoc]; exact Nat.dvd_mul_right_of_dvd (dvd_wt k) _
      exact Nat.lcm_dvd h2 h3
theorem OInv.skip {f : Nat → Nat} {X : Nat} {s : Nat → Bool} {O : Nat} {D : List Nat} (h : OInv f X s O D) (hs : s X = true) : OInv f (X + 1) s O D :=
  ⟨fun y hy => by
    by_cases e : y = X
    · rw [e]; exact hs
    · exact h.seen y (by omega), h.cl, h.pos, h.back, h.least, h.nd, h.one, h.sum, h.dv⟩
/-- what the order is -/
def IsAll (f : Nat → Nat) (O : Nat) : Prop := 1 ≤ O ∧ O < 2 ^ 62 ∧ (∀ y, y < 256 → it f O y = y) ∧ ∀ d, (∀ y, y < 256 → it f d y = y) → O ∣ d
theorem OInv.fin {f : Nat → Nat} {s : Nat → Bool} {O : Nat} {D : List Nat} (h : OInv f 256 s O D) : IsAll f O :=
  ⟨h.pos, h.lt, fun y hy => h.back y hy (h.seen y hy), fun d hd => h.least d fun y hy _ => hd y hy⟩
theorem lcm_as (O k : Nat) (hk : 1 ≤ k) : O / Nat.gcd (O % k) k * k = Nat.lcm O k := by
  have e : Nat.gcd (O % k) k = Nat.gcd O k := by rw [← Nat.gcd_rec, Nat.gcd_comm]
  rw [e]
  unfold Nat.lcm
  exact (Nat.div_mul_right_comm (Nat.gcd_dvd_left O k) k)
end Go.Proofs.Ytabhmhojlhagcaa.F
