/- Plain arithmetic behind package euclid: the invariant of the extended Euclidean algorithm with quotients cut towards zero. -/
import Derived.Test.YtkodhpjmmiapaaaNum2
namespace Go.Proofs.Ytkodhpjmmiapaaa.M

structure StepRel (a0 b0 A B X N : Int) : Prop where
  lin : ∃ y, X * a0 + y * b0 = A
  lin' : ∃ y, N * a0 + y * b0 = B
  gcd : Int.gcd A B = Int.gcd a0 b0
  sum : X.natAbs * B.natAbs + N.natAbs * A.natAbs ≤ 2147483648
  a1 : A.natAbs ≤ 2147483648
  b1 : B.natAbs ≤ 2147483648
  x1 : X.natAbs ≤ 2147483648
  n1 : N.natAbs ≤ 2147483648
  pos : 0 ≤ a0 → 0 ≤ b0 → 0 ≤ A ∧ 0 ≤ B
theorem StepRel.init {a0 b0 : Int} (h1 : -2147483648 ≤ a0) (h2 : a0 ≤ 2147483648) (h3 : -2147483648 ≤ b0) (h4 : b0 ≤ 2147483648) : StepRel a0 b0 a0 b0 1 0 :=
  ⟨⟨0, by omega⟩, ⟨1, by omega⟩, rfl, by simp; omega, by omega, by omega, by omega, by omega, fun h h' => ⟨h, h'⟩⟩
theorem tdiv_facts (A B : Int) (h : B ≠ 0) : (A - A.tdiv B * B).natAbs < B.natAbs ∧ (A.tdiv B).natAbs * B.natAbs + (A - A.tdiv B * B).natAbs = A.natAbs := by
  have e := Int.mul_tdiv_add_tmod A B
  have e2 : A - A.tdiv B * B = A.tmod B := by rw [Int.mul_comm]; omega
  rw [e2, Int.natAbs_tmod, Int.natAbs_tdiv]
  have hb : 0 < B.natAbs := by omega
  refine ⟨Nat.mod_lt _ hb, ?_⟩
  have := Nat.div_add_mod A.natAbs B.natAbs
  rw [Nat.mul_comm]; exact this
theorem StepRel.step {a0 b0 A B X N : Int} (h : StepRel a0 b0 A B X N) (hB : B ≠ 0) :
    StepRel a0 b0 B (A - A.tdiv B * B) N (X - A.tdiv B * N) ∧ (A.tdiv B).natAbs ≤ 2147483648 ∧ (A.tdiv B * B).natAbs ≤ 2147483648 ∧ (A.tdiv B * N).natAbs ≤ 2147483648 ∧ (A - A.tdiv B * B).natAbs < B.natAbs := by
  obtain ⟨⟨y, hy⟩, ⟨z, hz⟩, hg, hs, ha, hb, hx, hn, hp⟩ := h
  have hp2 : 0 ≤ A → 0 ≤ A - A.tdiv B * B := fun h0 => by
    have e := Int.mul_tdiv_add_tmod A B
    have e2 : A - A.tdiv B * B = A.tmod B := by rw [Int.mul_comm]; omega
    rw [e2]; exact Int.tmod_nonneg B h0
  obtain ⟨t1, t2⟩ := tdiv_facts A B hB
  obtain ⟨q, hq⟩ : ∃ q, q = A.tdiv B := ⟨_, rfl⟩
  rw [← hq] at t1 t2 hp2 ⊢
  have hB1 : 1 ≤ B.natAbs := by omega
  have m1 : q.natAbs ≤ q.natAbs * B.natAbs := Nat.le_mul_of_pos_right _ hB1
  have m2 : (q * B).natAbs = q.natAbs * B.natAbs := Int.natAbs_mul q B
  have m3 : (q * N).natAbs = q.natAbs * N.natAbs := Int.natAbs_mul q N
  have m4 : q.natAbs * N.natAbs ≤ A.natAbs * N.natAbs := Nat.mul_le_mul_right _ (by omega)
  have m5 : A.natAbs * N.natAbs = N.natAbs * A.natAbs := Nat.mul_comm _ _
  have tri : (X - q * N).natAbs ≤ X.natAbs + q.natAbs * N.natAbs := by
    rw [← m3]; omega
  have key : N.natAbs * (A - q * B).natAbs + (X - q * N).natAbs * B.natAbs ≤ 2147483648 := by
    have e1 : (X - q * N).natAbs * B.natAbs ≤ (X.natAbs + q.natAbs * N.natAbs) * B.natAbs := Nat.mul_le_mul_right _ tri
    have e2 : N.natAbs * A.natAbs = N.natAbs * (q.natAbs * B.natAbs) + N.natAbs * (A - q * B).natAbs := by rw [← t2, Nat.mul_add]
    have e3 : (X.natAbs + q.natAbs * N.natAbs) * B.natAbs = X.natAbs * B.natAbs + N.natAbs * (q.natAbs * B.natAbs) := by
      rw [Nat.add_mul]; congr 1; rw [Nat.mul_comm q.natAbs, Nat.mul_assoc]
    omega
  have hn' : (X - q * N).natAbs ≤ 2147483648 := by
    have : (X - q * N).natAbs ≤ (X - q * N).natAbs * B.natAbs := Nat.le_mul_of_pos_right _ hB1
    omega
  refine ⟨⟨⟨z, hz⟩, ⟨y - q * z, ?_⟩, ?_, key, hb, by omega, hn, hn', fun u v => ⟨(hp u v).2, hp2 (hp u v).1⟩⟩, by omega, by omega, ?_, t1⟩
  · rw [← hy, ← hz]; grind
  · rw [← hg, Int.gcd_comm]
    have : A - q * B = A + -q * B := by rw [Int.neg_mul]; omega
    rw [this, Int.gcd_add_mul_right_left]
  · rw [m3]
    have : N.natAbs * A.natAbs ≤ X.natAbs * B.natAbs + N.natAbs * A.natAbs := Nat.le_add_left _ _
    omega
theorem lcm_eq {a b : Int} (h : Int.gcd a b ≠ 0) : (a.tdiv (Int.gcd a b) * b).natAbs = Int.lcm a b := by
  rw [Int.natAbs_mul, Int.natAbs_tdiv]
  have h1 := Nat.gcd_mul_lcm a.natAbs b.natAbs
  have hg : (Int.gcd a b : Int).natAbs = Nat.gcd a.natAbs b.natAbs := by simp [Int.gcd]
  have h0 : 0 < Nat.gcd a.natAbs b.natAbs := by have : Nat.gcd a.natAbs b.natAbs ≠ 0 := h; omega
  rw [hg]
  show a.natAbs / Nat.gcd a.natAbs b.natAbs * b.natAbs = Nat.lcm a.natAbs b.natAbs
  apply Nat.eq_of_mul_eq_mul_left h0
  rw [h1, ← Nat.mul_assoc, Nat.mul_div_cancel' (Nat.gcd_dvd_left _ _)]
theorem lcm_facts {a b : Int} (h1 : -2147483648 ≤ a) (h2 : a ≤ 2147483648) (h3 : -2147483648 ≤ b) (h4 : b ≤ 2147483648) :
    (a.tdiv (Int.gcd a b)).natAbs ≤ 2147483648 ∧ (a.tdiv (Int.gcd a b) * b).natAbs ≤ 4611686018427387904 := by
  have e1 : (a.tdiv (Int.gcd a b)).natAbs ≤ a.natAbs := by rw [Int.natAbs_tdiv]; exact Nat.div_le_self _ _
  refine ⟨by omega, ?_⟩
  rw [Int.natAbs_mul]
  exact Nat.mul_le_mul (by omega : _ ≤ 2147483648) (by omega : _ ≤ 2147483648)
/-- what Bezout answers -/
theorem bez {a b g x y : Int} (hb : b ≠ 0) (hg : g = Int.gcd a b) (hy : x * a + y * b = g) :
    0 < g ∧ 1 ≤ (b.natAbs : Int).tdiv g ∧ (b.natAbs : Int).tdiv g ≤ b.natAbs ∧ (b.natAbs : Int).tdiv g * g = b.natAbs ∧ b ∣ g - x % ((b.natAbs : Int).tdiv g) * a := by
  have hgp : 0 < g := by rw [hg]; exact Int.natCast_pos.2 (Int.gcd_pos_of_ne_zero_right a hb)
  have hd : g ∣ b := by rw [hg]; exact Int.gcd_dvd_right a b
  have hda : g ∣ a := by rw [hg]; exact Int.gcd_dvd_left a b
  have hdb : g ∣ (b.natAbs : Int) := Int.dvd_natAbs.2 hd
  obtain ⟨k, hk⟩ := hdb
  have hk0 : 0 < k := by
    have : 0 < k * g := by rw [Int.mul_comm, ← hk]; omega
    exact Int.pos_of_mul_pos_left this hgp
  have e : (b.natAbs : Int).tdiv g = k := by rw [hk]; exact Int.mul_tdiv_cancel_left k (by omega)
  rw [e]
  refine ⟨hgp, by omega, ?_, by rw [hk, Int.mul_comm], ?_⟩
  · rw [hk]; have := Int.mul_le_mul_of_nonneg_right (show (1 : Int) ≤ g by omega) (Int.le_of_lt hk0); omega
  · obtain ⟨c, hc⟩ := hda
    have hm := Int.mul_ediv_add_emod x k
    have h1 : (b.natAbs : Int) ∣ g - x % k * a - y * b := by
      refine ⟨x / k * c, ?_⟩
      have : x % k = x - k * (x / k) := by omega
      rw [this, hk]
      have e3 : g - (x - k * (x / k)) * a - y * b = k * (x / k) * a := by rw [← hy]; grind
      rw [e3, hc]; grind
    have h2 := Int.natAbs_dvd.1 h1
    have := Int.dvd_add h2 (show b ∣ y * b from ⟨y, Int.mul_comm _ _⟩)
    have e4 : g - x % k * a - y * b + y * b = g - x % k * a := by omega
    rwa [e4] at this
end Go.Proofs.Ytkodhpjmmiapaaa.M
