/- Plain: how long the list of the divisors is while it is laid, and how great its members are. -/
import Derived.Test.YtceocooppjfjjaaDivsM
namespace Go.Proofs.Ytceocooppjfjjaa.M
set_option linter.unusedVariables false
set_option linter.unusedSimpArgs false
/-- the list behind the first J rounds for the prime p -/
def part (L : List Nat) (p J : Nat) : List Nat := L ++ (List.range J).flatMap fun j => L.map fun d => d * p ^ (j + 1)
theorem part_zero (L : List Nat) (p : Nat) : part L p 0 = L := by simp [part]
theorem part_succ (L : List Nat) (p J : Nat) : part L p (J + 1) = part L p J ++ L.map fun d => d * p ^ (J + 1) := by simp [part, List.range_succ]
theorem part_all (L : List Nat) (q : Nat × Nat) : part L q.1 q.2 = dstep L q := rfl
theorem part_len (L : List Nat) (p J : Nat) : (part L p J).length = L.length * (J + 1) := by
  induction J with
  | zero => simp [part_zero]
  | succ J ih => rw [part_succ, List.length_append, ih, List.length_map]; rw [Nat.mul_succ L.length (J + 1)]
theorem part_prefix (L : List Nat) (p J : Nat) : L <+: part L p J := ⟨_, rfl⟩
theorem part_pre (L : List Nat) (p J : Nat) : ∃ R, part L p J = L ++ R := ⟨_, rfl⟩
theorem dstep_sub {L : List Nat} {q : Nat × Nat} {d : Nat} (h : d ∈ L) : d ∈ dstep L q := List.mem_append_left _ h
theorem dvs_sub {l : List (Nat × Nat)} : ∀ {L : List Nat} {d : Nat}, d ∈ L → d ∈ dvs L l := by
  induction l with
  | nil => intro L d h; exact h
  | cons q t ih => intro L d h; exact ih (dstep_sub h)
theorem dstep_len (L : List Nat) (q : Nat × Nat) : (dstep L q).length = L.length * (q.2 + 1) := part_len L q.1 q.2
theorem dvs_len_le (l : List (Nat × Nat)) : ∀ (L : List Nat), L.length ≤ (dvs L l).length := by
  induction l with
  | nil => intro L; exact Nat.le_refl _
  | cons q t ih => intro L; exact Nat.le_trans (by rw [dstep_len]; exact Nat.le_mul_of_pos_right _ (by omega)) (ih (dstep L q))
theorem pow_big {p k : Nat} (hp : 2 ≤ p) : k + 1 ≤ p ^ k := by
  induction k with
  | zero => simp
  | succ k ih => rw [Nat.pow_succ]; have := Nat.mul_le_mul ih hp; omega
theorem dvs_len {b n : Nat} {l : List (Nat × Nat)} (h : FacL b n l) : ∀ L : List Nat, (dvs L l).length ≤ L.length * n := by
  induction l generalizing b n with
  | nil => intro L; have : n = 1 := h; subst this; simp [dvs]
  | cons q t ih =>
    intro L
    obtain ⟨h1, h2, h3, m, h4, h5, h6⟩ := h
    rw [dvs_cons]
    refine Nat.le_trans (ih h6 _) ?_
    rw [dstep_len, h4, Nat.mul_assoc]
    have := pow_big (p := q.1) (k := q.2) h2.1
    exact Nat.mul_le_mul_left _ (Nat.mul_le_mul_right _ this)
theorem dvs_append (L : List Nat) (a b : List (Nat × Nat)) : dvs L (a ++ b) = dvs (dvs L a) b := by simp [dvs]
/-- the bounds of a round -/
theorem round_bounds {N : Nat} (h1 : 1 ≤ N) {pre : List (Nat × Nat)} {x : Nat × Nat} (h : pre ++ [x] <+: fac N) :
    (dvs [1] pre).length * (x.2 + 1) ≤ N ∧ ∀ d ∈ dvs [1] pre, ∀ j, j ≤ x.2 → d * x.1 ^ j ≤ N := by
  obtain ⟨t, ht⟩ := h
  have hall : dvs [1] (fac N) = dvs (dstep (dvs [1] pre) x) t := by rw [← ht, dvs_append, dvs_snoc]
  refine ⟨?_, fun d hd j hj => ?_⟩
  · have := dvs_len (fac_spec h1) [1]
    rw [hall] at this
    have h2 := dvs_len_le t (dstep (dvs [1] pre) x)
    rw [dstep_len] at h2
    simp at this
    omega
  · refine Nat.le_of_dvd h1 (dvs_of h1 _ ?_)
    rw [hall]
    refine dvs_sub ?_
    cases j with
    | zero => rw [Nat.pow_zero, Nat.mul_one]; exact dstep_sub hd
    | succ j => exact List.mem_append_right _ (List.mem_flatMap.2 ⟨j, List.mem_range.2 (by omega), List.mem_map.2 ⟨d, hd, rfl⟩⟩)
theorem one_mem (l : List (Nat × Nat)) : 1 ∈ dvs [1] l := dvs_sub (by simp)
theorem perm_sum_int {a b : List Int} (h : a.Perm b) : a.sum = b.sum := by
  induction h with
  | nil => rfl
  | cons x _ ih => simp [ih]
  | swap x y l => simp; omega
  | trans _ _ i1 i2 => exact i1.trans i2
end Go.Proofs.Ytceocooppjfjjaa.M
