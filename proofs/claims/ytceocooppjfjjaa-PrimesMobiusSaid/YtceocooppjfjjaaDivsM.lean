/- Plain: all divisors by the primes; Gauss's sum. -/
import Derived.Test.YtceocooppjfjjaaPhi
namespace Go.Proofs.Ytceocooppjfjjaa.M
set_option linter.unusedVariables false
set_option linter.unusedSimpArgs false
/-- one prime more -/
def dstep (L : List Nat) (q : Nat × Nat) : List Nat := L ++ (List.range q.2).flatMap fun j => L.map fun d => d * q.1 ^ (j + 1)
def dvs (L : List Nat) (l : List (Nat × Nat)) : List Nat := l.foldl dstep L
theorem dvs_cons (L : List Nat) (q : Nat × Nat) (t : List (Nat × Nat)) : dvs L (q :: t) = dvs (dstep L q) t := rfl
theorem dvs_snoc (L : List Nat) (l : List (Nat × Nat)) (q : Nat × Nat) : dvs L (l ++ [q]) = dstep (dvs L l) q := by simp [dvs]
theorem dstep_mem {L : List Nat} {q : Nat × Nat} {x : Nat} (h : x ∈ dstep L q) : ∃ d j, d ∈ L ∧ j ≤ q.2 ∧ x = d * q.1 ^ j := by
  rcases List.mem_append.1 h with h | h
  · exact ⟨x, 0, h, Nat.zero_le _, by simp⟩
  · obtain ⟨j, hj, hx⟩ := List.mem_flatMap.1 h
    obtain ⟨d, hd, rfl⟩ := List.mem_map.1 hx
    exact ⟨d, j + 1, hd, by have := List.mem_range.1 hj; omega, rfl⟩
/-- no prime from b on divides -/
def Low (b : Nat) (L : List Nat) : Prop := ∀ d ∈ L, 0 < d ∧ ∀ r, Pr r → b ≤ r → ¬ r ∣ d
theorem Low.one (b : Nat) : Low b [1] := fun d hd => by
  obtain rfl := List.mem_singleton.1 hd
  exact ⟨Nat.one_pos, fun r hr _ h => by have := Nat.le_of_dvd Nat.one_pos h; have := hr.1; omega⟩
theorem Low.step {b : Nat} {L : List Nat} {q : Nat × Nat} (h : Low b L) (hq : Pr q.1) (hb : b ≤ q.1) : Low (q.1 + 1) (dstep L q) := fun x hx => by
  obtain ⟨d, j, hd, _, rfl⟩ := dstep_mem hx
  obtain ⟨d0, d1⟩ := h d hd
  refine ⟨Nat.mul_pos d0 (Nat.pow_pos hq.pos), fun r hr hbr hdv => ?_⟩
  rcases hr.dvd_mul hdv with h1 | h1
  · exact d1 r hr (by omega) h1
  · have h2 := hr.dvd_pow h1
    rcases hq.2 r h2 with e | e
    · have := hr.1; omega
    · omega
theorem sum_map_mul (L : List Nat) (f : Nat → Nat) (c : Nat) : (L.map fun d => c * f d).sum = c * (L.map f).sum := by
  induction L with
  | nil => simp
  | cons x t ih => simp only [List.map_cons, List.sum_cons, ih, Nat.mul_add]
theorem phi_step {b : Nat} {L : List Nat} {q : Nat × Nat} (h : Low b L) (hq : Pr q.1) (hb : b ≤ q.1) : ((dstep L q).map phi).sum = q.1 ^ q.2 * (L.map phi).sum := by
  obtain ⟨p, k⟩ := q
  simp only at hq hb ⊢
  have key : ∀ k, ((L ++ (List.range k).flatMap fun j => L.map fun d => d * p ^ (j + 1)).map phi).sum = p ^ k * (L.map phi).sum := fun k => by
    induction k with
    | zero => simp
    | succ k ih =>
      rw [List.range_succ, List.flatMap_append, ← List.append_assoc, List.map_append, List.sum_append, ih]
      have e : (([k].flatMap fun j => L.map fun d => d * p ^ (j + 1)).map phi).sum = p ^ k * (p - 1) * (L.map phi).sum := by
        rw [← sum_map_mul]
        simp only [List.flatMap_cons, List.flatMap_nil, List.append_nil, List.map_map]
        congr 1
        refine List.map_congr_left fun d hd => ?_
        show phi (d * p ^ (k + 1)) = _
        rw [Nat.mul_comm d, phi_pow hq ((h d hd).2 p hq hb)]
      rw [e, ← Nat.add_mul]
      congr 1
      have := hq.1
      obtain ⟨c, rfl⟩ : ∃ c, p = c + 1 := ⟨p - 1, by omega⟩
      rw [Nat.pow_succ, Nat.add_sub_cancel, Nat.mul_add, Nat.mul_one, Nat.add_comm]
  exact key k
theorem phi_sum {b n : Nat} {l : List (Nat × Nat)} (h : FacL b n l) : ∀ L, Low b L → ((dvs L l).map phi).sum = n * (L.map phi).sum := by
  induction l generalizing b n with
  | nil => intro L _; have : n = 1 := h; subst this; simp [dvs]
  | cons q t ih =>
    intro L hL
    obtain ⟨h1, h2, h3, m, h4, h5, h6⟩ := h
    rw [dvs_cons, ih h6 _ (hL.step h2 h1), phi_step hL h2 h1, h4]
    ac_rfl
/-- Gauss -/
theorem gauss {n : Nat} (h : 0 < n) : ((dvs [1] (fac n)).map phi).sum = n := by
  rw [phi_sum (fac_spec h) [1] (Low.one _)]
  simp [phi_one]
theorem dvs_dvd {b n : Nat} {l : List (Nat × Nat)} (h : FacL b n l) : ∀ (L : List Nat) (c : Nat), (∀ d ∈ L, d ∣ c) → ∀ d ∈ dvs L l, d ∣ c * n := by
  induction l generalizing b n with
  | nil => intro L c hL d hd; have : n = 1 := h; subst this; rw [Nat.mul_one]; exact hL d hd
  | cons q t ih =>
    intro L c hL d hd
    obtain ⟨h1, h2, h3, m, h4, h5, h6⟩ := h
    have := ih h6 (dstep L q) (c * q.1 ^ q.2) (fun x hx => by
      obtain ⟨d, j, hd, hj, rfl⟩ := dstep_mem hx
      exact Nat.mul_dvd_mul (hL d hd) (Nat.pow_dvd_pow _ hj)) d hd
    rw [h4, ← Nat.mul_assoc]; exact this
theorem dvs_of {n : Nat} (h : 0 < n) : ∀ d ∈ dvs [1] (fac n), d ∣ n := fun d hd => by
  have := dvs_dvd (fac_spec h) [1] 1 (fun x hx => by rw [List.mem_singleton.1 hx]; exact Nat.dvd_refl 1) d hd
  rwa [Nat.one_mul] at this
end Go.Proofs.Ytceocooppjfjjaa.M
