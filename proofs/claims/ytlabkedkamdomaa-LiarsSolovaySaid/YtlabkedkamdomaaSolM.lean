/- Plain number theory: Solovay and Strassen's bound up to 500: for each composite odd number a base that Fermat's test finds out. -/
import Derived.Test.YtlabkedkamdomaaLiM
import Derived.Test.YtlabkedkamdomaaPhi
import Derived.Test.YtlabkedkamdomaaBert
namespace Go.Proofs.Ytlabkedkamdomaa.M
set_option linter.unusedVariables false
theorem two_copies {n b : Nat} {L : List Nat} (hn : 2 ≤ n) (hL : L.Nodup) (h0 : ∀ s ∈ L, s < n ∧ Nat.Coprime n s) (hb : Nat.Coprime n b) (h1 : ∀ s ∈ L, ∀ t ∈ L, s ≠ b * t % n) : 2 * L.length ≤ phi n := by
  have hnd : (L.map fun s => b * s % n).Nodup := nodup_map _ _ hL fun x hx y hy e => by
    have := cancel_mod hb e
    rwa [Nat.mod_eq_of_lt (h0 x hx).1, Nat.mod_eq_of_lt (h0 y hy).1] at this
  have hall : (L ++ L.map (fun s => b * s % n)).Nodup := by
    rw [List.nodup_append]
    refine ⟨hL, hnd, ?_⟩
    intro s hs y hy
    obtain ⟨t, ht, rfl⟩ := List.mem_map.1 hy
    exact h1 s hs t ht
  have := length_le_of_inj _ (U n) hall (by
    intro x hx
    have key : x < n ∧ Nat.Coprime n x := by
      rcases List.mem_append.1 hx with hx | hx
      · exact h0 x hx
      · obtain ⟨t, ht, rfl⟩ := List.mem_map.1 hx
        refine ⟨Nat.mod_lt _ (by omega), ?_⟩
        have hc : Nat.Coprime n (b * t) := hb.mul_right (h0 t ht).2
        unfold Nat.Coprime at hc ⊢
        rw [Nat.gcd_comm, ← Nat.gcd_rec]; exact hc
    unfold U
    simp only [List.mem_filter, List.mem_range, beq_iff_eq]
    exact key)
  unfold phi
  simp at this
  omega
theorem solovay {n b : Nat} (h3 : 3 ≤ n) (hb : Nat.Coprime n b) (hbn : b ^ (n - 1) % n ≠ 1) (f : Nat → Bool) (hf : ∀ x, f x = true → Nat.Coprime n x ∧ x ^ (n - 1) % n = 1) : 2 * cnt f n ≤ phi n := by
  rw [← cnt_eq]
  refine two_copies (b := b) (by omega) (List.Pairwise.filter _ List.nodup_range) ?_ hb ?_
  · intro s hs
    obtain ⟨h1, h2⟩ := List.mem_filter.1 hs
    exact ⟨List.mem_range.1 h1, (hf s h2).1⟩
  · intro s hs t ht e
    have f1 := (hf s (List.mem_filter.1 hs).2).2
    have f2 := (hf t (List.mem_filter.1 ht).2).2
    apply hbn
    rw [e, ← Nat.pow_mod, Nat.mul_pow, Nat.mul_mod, f2, Nat.mul_one, Nat.mod_mod] at f1
    exact f1
theorem witness_dec : ∀ k, k < 250 → 1 ≤ k → (noD 30 2 (2 * k + 1) || (List.range 20).any fun b => Nat.gcd (2 * k + 1) b == 1 && b ^ (2 * k) % (2 * k + 1) != 1) = true := by decide +kernel
theorem witness {n : Nat} (h3 : 3 ≤ n) (hn : n ≤ 500) (ho : n % 2 = 1) (hp : ¬ Pr n) : ∃ b, Nat.Coprime n b ∧ b ^ (n - 1) % n ≠ 1 := by
  obtain ⟨k, rfl⟩ : ∃ k, n = 2 * k + 1 := ⟨n / 2, by omega⟩
  have h := witness_dec k (by omega) (by omega)
  rw [Bool.or_eq_true] at h
  rcases h with h | h
  · exact absurd ((Pr.iff_trial _).2 ⟨by omega, noD_spec _ _ _ h⟩) hp
  · obtain ⟨b, _, hb⟩ := List.any_eq_true.1 h
    rw [Bool.and_eq_true, beq_iff_eq, bne_iff_ne] at hb
    exact ⟨b, hb.1, hb.2⟩
theorem cnt_all {f : Nat → Bool} : ∀ n, f 0 = false → (∀ x, 0 < x → x < n → f x = true) → cnt f n = n - 1
  | 0, _, _ => rfl
  | n + 1, h0, h => by
    unfold cnt
    rw [cnt_all n h0 (fun x h1 h2 => h x h1 (by omega))]
    by_cases hn : n = 0
    · subst hn; rw [h0]; rfl
    · rw [h n (by omega) (by omega)]; simp; omega
theorem cnt_pos {f : Nat → Bool} : ∀ {n : Nat} (x : Nat), x < n → f x = true → 1 ≤ cnt f n
  | 0, x, h, _ => by omega
  | n + 1, x, h, hx => by
    unfold cnt
    by_cases e : x = n
    · subst e; rw [hx]; simp
    · have := cnt_pos (n := n) x (by omega) hx; omega
end Go.Proofs.Ytlabkedkamdomaa.M
