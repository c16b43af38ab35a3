/- Plain: Mobius's sum. -/
import Derived.Test.YtceocooppjfjjaaDivsM
import Derived.Test.YtceocooppjfjjaaUniqM
namespace Go.Proofs.Ytceocooppjfjjaa.M
set_option linter.unusedVariables false
set_option linter.unusedSimpArgs false
/-- as the program reckons it -/
def muf : List (Nat × Nat) → Int
  | [] => 1
  | q :: t => if 1 < q.2 then 0 else - muf t
def mu (n : Nat) : Int := muf (fac n)
theorem muf_snoc (q : Nat × Nat) : ∀ l, muf (l ++ [q]) = if 1 < q.2 then 0 else - muf l
  | [] => rfl
  | x :: t => by
    show (if 1 < x.2 then 0 else - muf (t ++ [q])) = _
    rw [muf_snoc q t]
    simp only [muf]
    split <;> split <;> simp_all
theorem fac_snoc {d p j : Nat} (hd : 0 < d) (hl : ∀ r, Pr r → p ≤ r → ¬ r ∣ d) (hp : Pr p) (hj : 0 < j) : fac (d * p ^ j) = fac d ++ [(p, j)] := by
  refine (fac_of (Nat.mul_pos hd (Nat.pow_pos hp.pos)) (fun x hx => ?_) ?_ ?_).symm
  · rcases List.mem_append.1 hx with h | h
    · obtain ⟨h1, h2, _⟩ := (fac_spec hd).dvd x h; exact ⟨h1, h2⟩
    · rw [List.mem_singleton.1 h]; exact ⟨hp, hj⟩
  · refine List.pairwise_append.2 ⟨fac_rising hd, by simp, fun x hx y hy => ?_⟩
    rw [List.mem_singleton.1 hy]
    obtain ⟨h1, h2, h3, h4⟩ := (fac_spec hd).dvd x hx
    refine Nat.lt_of_not_le fun h => hl x.1 h1 h (Nat.dvd_trans ?_ h4)
    have := Nat.pow_dvd_pow x.1 h2
    rwa [Nat.pow_one] at this
  · rw [prodP_snoc, prodP_fac (fac_spec hd)]
theorem mu_pow {d p j : Nat} (hd : 0 < d) (hl : ∀ r, Pr r → p ≤ r → ¬ r ∣ d) (hp : Pr p) (hj : 0 < j) : mu (d * p ^ j) = if 1 < j then 0 else - mu d := by
  unfold mu; rw [fac_snoc hd hl hp hj, muf_snoc]
theorem mu_step {b : Nat} {L : List Nat} {q : Nat × Nat} (h : Low b L) (hq : Pr q.1) (hb : b ≤ q.1) (hk : 1 ≤ q.2) : ((dstep L q).map mu).sum = 0 := by
  obtain ⟨p, k⟩ := q
  simp only at hq hb hk
  have neg : ∀ l : List Nat, (∀ d ∈ l, 0 < d ∧ ∀ r, Pr r → b ≤ r → ¬ r ∣ d) → ((l.map fun d => d * p ^ (0 + 1)).map mu).sum = - (l.map mu).sum := fun l hl => by
    induction l with
    | nil => simp
    | cons x t ih =>
      have e := mu_pow (hl x (by simp)).1 (fun r hr hpr => (hl x (by simp)).2 r hr (by omega)) hq (j := 0 + 1) (by omega)
      rw [if_neg (by omega)] at e
      simp only [List.map_cons, List.sum_cons]
      rw [ih fun d hd => hl d (List.mem_cons_of_mem _ hd), e]
      omega
  have nil : ∀ (j : Nat), 1 ≤ j → ∀ l : List Nat, (∀ d ∈ l, 0 < d ∧ ∀ r, Pr r → b ≤ r → ¬ r ∣ d) → ((l.map fun d => d * p ^ (j + 1)).map mu).sum = 0 := fun j hj l hl => by
    induction l with
    | nil => simp
    | cons x t ih =>
      have e := mu_pow (hl x (by simp)).1 (fun r hr hpr => (hl x (by simp)).2 r hr (by omega)) hq (j := j + 1) (by omega)
      rw [if_pos (by omega)] at e
      simp only [List.map_cons, List.sum_cons]
      rw [ih fun d hd => hl d (List.mem_cons_of_mem _ hd), e]
      omega
  have key : ∀ k, 1 ≤ k → ((L ++ (List.range k).flatMap fun j => L.map fun d => d * p ^ (j + 1)).map mu).sum = 0 := fun k hk => by
    induction k with
    | zero => omega
    | succ k ih =>
      rw [List.range_succ, List.flatMap_append, ← List.append_assoc, List.map_append, List.sum_append]
      simp only [List.flatMap_cons, List.flatMap_nil, List.append_nil]
      by_cases h0 : k = 0
      · subst h0
        rw [neg L h]
        simp
        omega
      · rw [ih (by omega), nil k (by omega) L h]; rfl
  exact key k hk
theorem dvs_zero {b n : Nat} {l : List (Nat × Nat)} (h : FacL b n l) : ∀ L, Low b L → (L.map mu).sum = 0 → ((dvs L l).map mu).sum = 0 := by
  induction l generalizing b n with
  | nil => intro L _ h0; exact h0
  | cons q t ih =>
    intro L hL _
    obtain ⟨h1, h2, h3, m, h4, h5, h6⟩ := h
    rw [dvs_cons]
    exact ih h6 _ (hL.step h2 h1) (mu_step hL h2 h1 h3)
/-- Mobius -/
theorem mobius {n : Nat} (h : 0 < n) : ((dvs [1] (fac n)).map mu).sum = if n = 1 then 1 else 0 := by
  have hf := fac_spec h
  cases hc : fac n with
  | nil =>
    rw [hc] at hf
    have e : n = 1 := hf
    rw [if_pos e]; rfl
  | cons q t =>
    rw [hc] at hf
    have hne : n ≠ 1 := by
      rintro rfl
      cases (show fac 1 = [] from rfl).symm.trans hc
    rw [if_neg hne]
    obtain ⟨h1, h2, h3, m, h4, h5, h6⟩ := hf
    rw [dvs_cons]
    exact dvs_zero h6 _ ((Low.one 2).step h2 h1) (mu_step (Low.one 2) h2 h1 h3)
end Go.Proofs.Ytceocooppjfjjaa.M
