/- Plain mathematics of iteration: tail and period of a sequence, as Brent and Floyd find them. -/
import Derived.Test.YtfebomnblpamlaaNum1
namespace Go.Proofs.Ytfebomnblpamlaa.M
set_option linter.unusedVariables false
def cyF (c n z : Int) : Int := (z * z % n + c % n) % n
def it (c n : Int) : Nat → Int → Int
  | 0, x => x
  | k + 1, x => cyF c n (it c n k x)
theorem it_add (c n : Int) (j k : Nat) (x : Int) : it c n (j + k) x = it c n j (it c n k x) := by
  induction j with
  | zero => simp [it]
  | succ j ih => rw [Nat.succ_add]; simp only [it, ih]
theorem it_bd {c n x : Int} (hn : 0 < n) (h0 : 0 ≤ x) (h1 : x < n) : ∀ k, 0 ≤ it c n k x ∧ it c n k x < n
  | 0 => ⟨h0, h1⟩
  | k + 1 => ⟨Int.emod_nonneg _ (by omega), Int.emod_lt_of_pos _ hn⟩
theorem it_per {c n x : Int} {a p : Nat} (h : it c n a x = it c n (a + p) x) : ∀ b, a ≤ b → it c n b x = it c n (b + p) x := by
  intro b hb
  obtain ⟨k, rfl⟩ : ∃ k, b = k + a := ⟨b - a, by omega⟩
  rw [it_add, h, ← it_add]; congr 1; omega
theorem it_per_mul {c n x : Int} {a p : Nat} (h : it c n a x = it c n (a + p) x) (b : Nat) (hb : a ≤ b) : ∀ r, it c n b x = it c n (b + p * r) x
  | 0 => by simp
  | r + 1 => by
    rw [it_per_mul h b hb r, it_per h (b + p * r) (by omega)]; congr 1; rw [Nat.mul_succ]; omega
/-- t steps ahead of the circle, s steps round -/
def Cyc (c n x : Int) (t s : Nat) : Prop := 1 ≤ s ∧ it c n t x = it c n (t + s) x ∧ (∀ k, 1 ≤ k → k < s → it c n (t + k) x ≠ it c n t x) ∧ ∀ j, j < t → it c n j x ≠ it c n (j + s) x
theorem exists_rep {c n x : Int} (hn : 0 < n) (h0 : 0 ≤ x) (h1 : x < n) : ∃ a p : Nat, 1 ≤ p ∧ a + p ≤ n.toNat ∧ it c n a x = it c n (a + p) x := by
  apply Classical.byContradiction
  intro hne
  have hinj : ∀ i ∈ List.range (n.toNat + 1), ∀ j ∈ List.range (n.toNat + 1), it c n i x = it c n j x → i = j := by
    intro i hi j hj e
    have hi := List.mem_range.1 hi
    have hj := List.mem_range.1 hj
    rcases Nat.lt_trichotomy i j with h | h | h
    · exact absurd ⟨i, j - i, by omega, by omega, by rw [e]; congr 1; omega⟩ hne
    · exact h
    · exact absurd ⟨j, i - j, by omega, by omega, by rw [← e]; congr 1; omega⟩ hne
  have hnd := nodup_map (fun k => it c n k x) _ (List.nodup_range (n := n.toNat + 1)) hinj
  have := length_le_of_inj _ ((List.range n.toNat).map fun k : Nat => (k : Int)) hnd (by
    intro y hy
    obtain ⟨k, _, rfl⟩ := List.mem_map.1 hy
    have := it_bd (c := c) hn h0 h1 k
    exact List.mem_map.2 ⟨(it c n k x).toNat, List.mem_range.2 (by omega), by simp; omega⟩)
  simp at this
  omega
theorem Cyc.le {c n x : Int} {t s : Nat} (hn : 0 < n) (h0 : 0 ≤ x) (h1 : x < n) (h : Cyc c n x t s) : t + s ≤ n.toNat := by
  obtain ⟨hs, he, hmin, htail⟩ := h
  have hno : ∀ a p, 1 ≤ p → a + p < t + s → it c n a x ≠ it c n (a + p) x := by
    intro a p hp hlt e
    by_cases hat : a < t
    · -- both periods hold from t on
      have e1 := it_per e t (by omega)
      have hq : it c n (t + p % s) x = it c n t x := by
        have := it_per_mul he (t + p % s) (by omega) (p / s)
        rw [this, e1]; congr 1
        have := Nat.div_add_mod p s; omega
      have hq0 : p % s = 0 := by
        apply Classical.byContradiction
        intro hne
        exact hmin (p % s) (by omega) (Nat.mod_lt _ (by omega)) hq
      have e2 := it_per e (t - 1) (by omega)
      have hdiv : p = s + s * (p / s - 1) := by
        have h3 := Nat.div_add_mod p s
        have h4 : 1 ≤ p / s := by
          rcases Nat.eq_zero_or_pos (p / s) with h | h
          · rw [h] at h3; omega
          · exact h
        obtain ⟨m, hm⟩ : ∃ m, p / s = m + 1 := ⟨p / s - 1, by omega⟩
        rw [hm, Nat.mul_succ] at h3
        rw [hm, Nat.add_sub_cancel]; omega
      have e3 := it_per_mul he (t - 1 + s) (by omega) (p / s - 1)
      exact htail (t - 1) (by omega) (by
        rw [e2, e3]; congr 1; omega)
    · have e1 := it_per_mul he t (Nat.le_refl t) a
      have hta : a ≤ t + s * a := by have := Nat.mul_le_mul_right a hs; omega
      have e2 := it_per e (t + s * a) hta
      have e3 := it_per_mul he (t + p) (by omega) a
      refine hmin p hp (by omega) ?_
      rw [e3, e1, e2]; congr 1; omega
  have hinj : ∀ i ∈ List.range (t + s), ∀ j ∈ List.range (t + s), it c n i x = it c n j x → i = j := by
    intro i hi j hj e
    have hi := List.mem_range.1 hi
    have hj := List.mem_range.1 hj
    rcases Nat.lt_trichotomy i j with h | h | h
    · exact absurd (by rw [e]; congr 1; omega) (hno i (j - i) (by omega) (by omega))
    · exact h
    · exact absurd (by rw [← e]; congr 1; omega) (hno j (i - j) (by omega) (by omega))
  have hnd := nodup_map (fun k => it c n k x) _ (List.nodup_range (n := t + s)) hinj
  have := length_le_of_inj _ ((List.range n.toNat).map fun k : Nat => (k : Int)) hnd (by
    intro y hy
    obtain ⟨k, _, rfl⟩ := List.mem_map.1 hy
    have := it_bd (c := c) hn h0 h1 k
    exact List.mem_map.2 ⟨(it c n k x).toNat, List.mem_range.2 (by omega), by simp; omega⟩)
  simpa using this
/-- Brent's search: the slow one stands at i, the fast one S steps further -/
def Brent (c n x : Int) (i S : Nat) : Prop := 1 ≤ S ∧ S ≤ i + 1 ∧ i ≤ 2 * n.toNat + 1 ∧ ∀ j, 1 ≤ j → j < S → it c n (i + j) x ≠ it c n i x
theorem Brent.init {c n x : Int} : Brent c n x 0 1 := ⟨by omega, by omega, by omega, fun j h1 h2 => by omega⟩
theorem Brent.more {c n x : Int} {i S : Nat} (h : Brent c n x i S) (hne : it c n (i + S) x ≠ it c n i x) (hS : S ≠ i + 1) : Brent c n x i (S + 1) := by
  obtain ⟨h1, h2, h3, h4⟩ := h
  refine ⟨by omega, by omega, h3, fun j k1 k2 => ?_⟩
  by_cases e : j = S
  · subst e; exact hne
  · exact h4 j k1 (by omega)
theorem Brent.jump {c n x : Int} {i : Nat} (hn : 0 < n) (h0 : 0 ≤ x) (hx : x < n) (h : Brent c n x i (i + 1)) (hne : it c n (i + (i + 1)) x ≠ it c n i x) : Brent c n x (i + (i + 1)) 1 := by
  obtain ⟨h1, h2, h3, h4⟩ := h
  refine ⟨by omega, by omega, ?_, fun j k1 k2 => by omega⟩
  obtain ⟨a, p, hp, hap, e⟩ := exists_rep (c := c) hn h0 hx
  have : i < n.toNat := by
    apply Classical.byContradiction
    intro hge
    have e1 := it_per e i (by omega)
    by_cases hpi : p = i + 1
    · rw [hpi] at e1; exact hne e1.symm
    · exact h4 p hp (by omega) e1.symm
  omega
theorem Brent.fin {c n x : Int} {i S t : Nat} (h : Brent c n x i S) (he : it c n (i + S) x = it c n i x) (ht : it c n t x = it c n (t + S) x) (hti : t ≤ i) (hm : ∀ j, j < t → it c n j x ≠ it c n (j + S) x) : Cyc c n x t S := by
  obtain ⟨h1, h2, h3, h4⟩ := h
  refine ⟨h1, ht, fun k k1 k2 e => ?_, hm⟩
  exact h4 k k1 k2 (it_per e.symm i hti).symm
theorem meet_of_rep {c n x : Int} {t s : Nat} (hs : 1 ≤ s) (he : it c n t x = it c n (t + s) x) : ∃ j, 1 ≤ j ∧ j ≤ t + s ∧ it c n j x = it c n (2 * j) x := by
  refine ⟨s * (t / s + 1), Nat.mul_pos hs (Nat.succ_pos _), ?_, ?_⟩
  · have := Nat.div_add_mod t s
    rw [Nat.mul_succ]; omega
  · have hle : t ≤ s * (t / s + 1) := by
      have h1 := Nat.div_add_mod t s
      have h2 := Nat.mod_lt t hs
      rw [Nat.mul_succ]; omega
    have := it_per_mul he (s * (t / s + 1)) hle (t / s + 1)
    rw [this]; congr 1; omega
theorem cyF_bd (c z : Int) {n : Int} (hn : 0 < n) : 0 ≤ cyF c n z ∧ cyF c n z < n := ⟨Int.emod_nonneg _ (by omega), Int.emod_lt_of_pos _ hn⟩
/-- a place in the circle that is a multiple of its length -/
theorem Cyc.meet {c n x : Int} {t s : Nat} (h : Cyc c n x t s) : ∃ j, 1 ≤ j ∧ j ≤ t + s ∧ it c n j x = it c n (2 * j) x := by
  obtain ⟨hs, he, _, _⟩ := h
  refine ⟨s * (t / s + 1), ?_, ?_, ?_⟩
  · exact Nat.mul_pos hs (Nat.succ_pos _)
  · have := Nat.div_add_mod t s
    rw [Nat.mul_succ]; omega
  · have hle : t ≤ s * (t / s + 1) := by
      have h1 := Nat.div_add_mod t s
      have h2 := Nat.mod_lt t hs
      rw [Nat.mul_succ]; omega
    have := it_per_mul he (s * (t / s + 1)) hle (t / s + 1)
    rw [this]; congr 1; omega
end Go.Proofs.Ytfebomnblpamlaa.M
