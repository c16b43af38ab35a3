/- Plain facts on the members of a group. -/
import Derived.Test.YtkodhpjmmiapaaaGrp
import Derived.Test.YtkodhpjmmiapaaaOrdM
namespace Go.Proofs.Ytkodhpjmmiapaaa
open Go.RowKit
set_option linter.unusedVariables false
set_option linter.unusedSimpArgs false
theorem pw_one (k m : Int) : pw 1 k m = 1 % m := by unfold pw; rw [Int.one_pow]
theorem memB_iff {P Q x : Int} : memB P Q x = true ↔ 1 ≤ x ∧ x < P ∧ pw x Q P = 1 := by simp [memB]
theorem pw_pos {P Q x k : Int} (hP : 2 ≤ P) (hQ : 1 ≤ Q) (h : memB P Q x = true) (hk : 0 ≤ k) : 1 ≤ pw x k P := by
  obtain ⟨h1, h2, h3⟩ := memB_iff.1 h
  have h4 := pw_nonneg x k (show 1 ≤ P by omega)
  have h5 := pw_pw x P hk (show 0 ≤ Q by omega)
  rw [Int.mul_comm, ← pw_pw x P (show 0 ≤ Q by omega) hk, h3, pw_one] at h5
  rcases Int.lt_or_eq_of_le h4 with h | h
  · omega
  · rw [← h] at h5
    have : pw 0 Q P = 0 := by unfold pw; rw [Int.zero_pow (by omega)]; simp
    rw [this, Int.emod_eq_of_lt (by omega) (by omega)] at h5
    omega
theorem mem_pw {P Q x k : Int} (hP : 2 ≤ P) (hQ : 1 ≤ Q) (h : memB P Q x = true) (hk : 0 ≤ k) : memB P Q (pw x k P) = true := by
  have h1 := pw_pos hP hQ h hk
  obtain ⟨_, _, h3⟩ := memB_iff.1 h
  refine memB_iff.2 ⟨h1, pw_lt x k (by omega), ?_⟩
  rw [pw_pw x P hk (by omega), Int.mul_comm, ← pw_pw x P (by omega) hk, h3, pw_one, Int.emod_eq_of_lt (by omega) (by omega)]
theorem mem_mul {P Q x y : Int} (hP : 2 ≤ P) (hQ : 1 ≤ Q) (h : memB P Q x = true) (h' : memB P Q y = true) : memB P Q (x * y % P) = true := by
  obtain ⟨_, _, h3⟩ := memB_iff.1 h
  obtain ⟨_, _, h6⟩ := memB_iff.1 h'
  have e : pw (x * y % P) Q P = 1 := by rw [pw_emod, ← pw_mul, h3, h6, Int.one_mul, Int.emod_eq_of_lt (by omega) (by omega)]
  refine memB_iff.2 ⟨?_, Int.emod_lt_of_pos _ (by omega), e⟩
  have h4 := Int.emod_nonneg (x * y) (show P ≠ 0 by omega)
  rcases Int.lt_or_eq_of_le h4 with h | h
  · omega
  · rw [← h] at e
    have : pw 0 Q P = 0 := by unfold pw; rw [Int.zero_pow (by omega)]; simp
    omega
theorem prB_int {P : Int} (h : prB P = true) (h2 : 2 ≤ P) : ((P.toNat : Nat) : Int) = P ∧ M.Pr P.toNat := ⟨by omega, prB_true h⟩
/-- what is left by a power that goes once round -/
theorem pw_mod {P Q x : Int} (hP : 2 ≤ P) (hQ : 1 ≤ Q) (h : memB P Q x = true) {k : Int} (hk : 0 ≤ k) : pw x (k % Q) P = pw x k P := by
  obtain ⟨_, _, h3⟩ := memB_iff.1 h
  have hm := Int.emod_nonneg k (show Q ≠ 0 by omega)
  have hd : 0 ≤ k / Q := Int.ediv_nonneg hk (by omega)
  have e : pw x (Q * (k / Q)) P = 1 := by rw [← pw_pw x P (by omega) hd, h3, pw_one, Int.emod_eq_of_lt (by omega) (by omega)]
  have e2 := pw_add x P (Int.mul_nonneg (show 0 ≤ Q by omega) hd) hm
  rw [e, Int.one_mul, Int.mul_ediv_add_emod] at e2
  rw [← e2, Int.emod_eq_of_lt (pw_nonneg _ _ (by omega)) (pw_lt _ _ (by omega))]
theorem mem_cancel {P : Int} (hp : prB P = true) (h2 : 2 ≤ P) {a x y : Int} (ha : 1 ≤ a) (ha2 : a < P) (h : a * x % P = a * y % P) : x % P = y % P := by
  obtain ⟨e, hP⟩ := prB_int hp h2
  have hd : P ∣ a * (x - y) := by
    rw [Int.mul_sub]; exact Int.dvd_of_emod_eq_zero (Int.emod_eq_emod_iff_emod_sub_eq_zero.1 h)
  have hg : Int.gcd P a = 1 := by
    rw [← e]
    refine hP.gcd_int fun hd => ?_
    have := Int.le_of_dvd (by omega) hd
    omega
  exact Int.emod_eq_emod_iff_emod_sub_eq_zero.2 (Int.emod_eq_zero_of_dvd (M.dvd_cancel hd hg))
theorem pw_inj_le {P Q g : Int} (hp : prB P = true) (hq : prB Q = true) (hP : 2 ≤ P) (hQ : 2 ≤ Q) (h : memB P Q g = true) (hg : 2 ≤ g) {i j : Int} (hi : 0 ≤ i) (hij : i ≤ j) (hj : j < Q) (he : pw g i P = pw g j P) : i = j := by
  obtain ⟨h1, h2, h3⟩ := memB_iff.1 h
  rcases Int.lt_or_eq_of_le hij with hlt | rfl
  · exfalso
    have e1 := pw_add g P hi (show 0 ≤ j - i by omega)
    rw [show i + (j - i) = j by omega, ← he] at e1
    have p1 := pw_pos hP (by omega) h hi
    have p2 := pw_lt g i (show 1 ≤ P by omega)
    have e2 : pw g i P * pw g (j - i) P % P = pw g i P * 1 % P := by rw [e1, Int.mul_one, Int.emod_eq_of_lt (by omega) p2]
    have e3 := mem_cancel hp hP p1 p2 e2
    have o1 : M.One g P (j - i).toNat := by
      have : pw g (j - i) P % P = pw g (j - i) P := Int.emod_eq_of_lt (pw_nonneg _ _ (by omega)) (pw_lt _ _ (by omega))
      rw [this] at e3; exact e3
    have o2 : M.One g P Q.toNat := by unfold M.One; rw [Int.emod_eq_of_lt (show (0:Int) ≤ 1 by omega) (by omega)]; exact h3
    have o3 := M.One.gcd _ _ o1 o2
    have hQp := prB_true hq
    have hc : Nat.gcd (j - i).toNat Q.toNat = 1 := by
      have := hQp.cop_of_lt (a := (j - i).toNat) (by omega) (by omega)
      rw [Nat.gcd_comm]; exact this
    rw [hc] at o3
    unfold M.One at o3
    rw [Int.pow_one, Int.emod_eq_of_lt (by omega) h2, Int.emod_eq_of_lt (by omega) (by omega)] at o3
    omega
  · rfl
theorem pw_inj {P Q g : Int} (hp : prB P = true) (hq : prB Q = true) (hP : 2 ≤ P) (hQ : 2 ≤ Q) (h : memB P Q g = true) (hg : 2 ≤ g) {i j : Int} (hi : 0 ≤ i) (hi2 : i < Q) (hj : 0 ≤ j) (hj2 : j < Q) (he : pw g i P = pw g j P) : i = j := by
  rcases Int.le_total i j with h1 | h1
  · exact pw_inj_le hp hq hP hQ h hg hi h1 hj2 he
  · exact (pw_inj_le hp hq hP hQ h hg hj h1 hi2 he.symm).symm
end Go.Proofs.Ytkodhpjmmiapaaa
