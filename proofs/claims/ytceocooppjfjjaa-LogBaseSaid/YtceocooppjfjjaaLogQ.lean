/- Plain: the law of LogAdds. -/
import Derived.Test.YtceocooppjfjjaaLogM
namespace Go.Proofs.Ytceocooppjfjjaa
set_option linter.unusedVariables false
set_option linter.unusedSimpArgs false
theorem pow_one_mul {g m : Int} {o : Nat} (ho : M.One g m o) (r q : Nat) : g ^ (r + o * q) % m = g ^ r % m := by
  induction q with
  | zero => rfl
  | succ q ih =>
    have e : g ^ (r + o * (q + 1)) = g ^ (r + o * q) * g ^ o := by rw [← Int.pow_add]; congr 1; rw [Nat.mul_succ]; omega
    rw [e, Int.mul_emod, ih, show g ^ o % m = 1 % m from ho, ← Int.mul_emod, Int.mul_one]
theorem LeastE.lt {g a m : Int} {o j : Nat} (ho : M.IsOrd g m o) (hj : LeastE g a m j) : j < o := by
  rcases Nat.lt_or_ge j o with h | h
  · exact h
  · refine absurd ?_ (hj.2 (j - o) (by have := ho.1; omega))
    have := pow_one_mul ho.2.1 (j - o) 1
    rw [Nat.mul_one, Nat.sub_add_cancel h] at this
    rw [← this]; exact hj.1
theorem log_unique {N : Nat} (hp : M.Pr N) {g c : Int} (hnd : ¬ (N : Int) ∣ g) {o l m : Nat} (ho : M.IsOrd g N o) (hl : LeastE g c N l) (hm : m < o) (h : g ^ m % N = c % N) : l = m := by
  rcases Nat.lt_trichotomy l m with h1 | h1 | h1
  · have e : g ^ (m - l) % (N : Int) = 1 % N := (pow_cancel (a := 1) hp hnd (Nat.le_of_lt h1)).1 (by rw [Int.one_mul]; exact h.trans hl.1.symm)
    have := Nat.le_of_dvd (by omega) (ho.2.2 _ e)
    omega
  · exact h1
  · exact absurd h (hl.2 m h1)
theorem ord_le {N : Nat} (hp : M.Pr N) {g : Int} (hnd : ¬ (N : Int) ∣ g) {o : Nat} (ho : M.IsOrd g N o) : o < N := by
  have h2 := hp.1
  have e : M.One g N (N - 1) := by
    show g ^ (N - 1) % (N : Int) = 1 % N
    rw [M.fermat_int1 hp hnd]
    exact (Int.emod_eq_of_lt (by omega) (by omega)).symm
  have := Nat.le_of_dvd (by omega) (ho.2.2 _ e)
  omega
theorem log_adds {N : Nat} (hp : M.Pr N) {g a b c : Int} (hnd : ¬ (N : Int) ∣ g) {o j k : Nat} (ho : M.IsOrd g N o) (hj : LeastE g a N j) (hk : LeastE g b N k) (hc : c % N = a * b % N) :
    j < o ∧ k < o ∧ (¬ ∀ e' : Nat, (e' : Int) ≤ N → g ^ e' % N ≠ c % N) ∧ ∀ l, LeastE g c N l → (l : Int) = ((j : Int) + k) % o := by
  have hm : g ^ ((j + k) % o) % (N : Int) = c % N := by
    have := pow_one_mul ho.2.1 ((j + k) % o) ((j + k) / o)
    rw [Nat.mod_add_div] at this
    rw [← this, hc, Int.pow_add, Int.mul_emod, hj.1, hk.1, ← Int.mul_emod]
  have hlt := Nat.mod_lt (j + k) ho.1
  refine ⟨hj.lt ho, hk.lt ho, fun h => h ((j + k) % o) (by have := ord_le hp hnd ho; omega) hm, fun l hl => ?_⟩
  rw [log_unique hp hnd ho hl hlt hm]
  exact Int.natCast_emod _ _
theorem least_one {g m : Int} {E : Nat} (h : LeastE g 1 m E) : E = 0 := by
  rcases Nat.eq_zero_or_pos E with h0 | h0
  · exact h0
  · exact absurd (by simp) (h.2 0 h0)
theorem gcd_prime {N : Nat} (hp : M.Pr N) {g : Int} (hnd : ¬ (N : Int) ∣ g) : Int.gcd g N = 1 := by
  have h1 : Int.gcd g N ∣ N := by have := Int.gcd_dvd_right (a := g) (b := N); exact Int.natCast_dvd_natCast.1 this
  rcases hp.2 _ h1 with h | h
  · exact h
  · exact absurd (by have := Int.gcd_dvd_left (a := g) (b := N); rw [h] at this; exact this) hnd
end Go.Proofs.Ytceocooppjfjjaa
