/- Plain: values of sums and products of polynomials; what a division says. -/
import Derived.Test.YtfgmnlphejpcaaaOver
import Derived.Test.YtfgmnlphejpcaaaRootM
namespace Go.Proofs.Ytfgmnlphejpcaaa
set_option linter.unusedVariables false
set_option linter.unusedSimpArgs false
theorem ev_sum (x : Int) : ∀ l : List Int, ev l x = SumI l.length (fun i => co l i * x ^ i)
  | [] => rfl
  | k :: t => by
    show k + x * ev t x = SumI (t.length + 1) _
    rw [SumI_head, ev_sum x t, ← SumI_mul]
    show _ = co (k :: t) 0 * x ^ 0 + _
    rw [Int.pow_zero, Int.mul_one]
    show k + _ = k + _
    congr 1
    exact SumI_congr fun i _ => by
      show x * (co t i * x ^ i) = co t i * x ^ (i + 1)
      rw [Int.pow_succ, Int.mul_left_comm, Int.mul_comm x]
theorem ev_sumN {l : List Int} {x : Int} {N : Nat} (h : l.length ≤ N) : ev l x = SumI N (fun i => co l i * x ^ i) := by
  rw [ev_sum, SumI_ext (fun i hi => by rw [co_out hi, Int.zero_mul]) h]
theorem ev_plus {p : Int} {a b : List Int} {k : Int} {up : Nat} (hp : 1 ≤ p) (ha : ∀ x ∈ a, 0 ≤ x ∧ x < p) (x : Int) :
    ev (plusL p a b k up) x % p = (ev a x + k * x ^ up * ev b x) % p := by
  obtain ⟨M, hM⟩ : ∃ M, max a.length (b.length + up) = up + M := ⟨max a.length (b.length + up) - up, by omega⟩
  rw [ev_sumN (N := up + M) (by have := plusL_len p a b k up; omega), ev_sumN (l := a) (N := up + M) (by omega), ev_sumN (l := b) (N := M) (by omega)]
  have e1 : k * x ^ up * SumI M (fun i => co b i * x ^ i) = SumI (up + M) (fun i => k * (if up ≤ i then co b (i - up) else 0) * x ^ i) := by
    rw [SumI_append, SumI_zero (n := up) (fun i hi => by rw [if_neg (by omega)]; simp), Int.zero_add, ← SumI_mul]
    exact SumI_congr fun i _ => by
      rw [if_pos (by omega), show up + i - up = i by omega, Int.pow_add, Int.mul_assoc, Int.mul_assoc, Int.mul_left_comm (x ^ up)]
  rw [e1, ← SumI_add]
  refine SumI_mod fun i _ => ?_
  rw [← Int.add_mul, Int.mul_emod, co_plus hp ha, Int.emod_emod, ← Int.mul_emod]
theorem ev_timesTo {p : Int} {a b : List Int} (hp : 1 ≤ p) (x : Int) : ∀ I, ev (timesTo p a b I) x % p = SumI I (fun i => co a i * x ^ i) * ev b x % p
  | 0 => by simp [timesTo, ev, SumI]
  | I + 1 => by
    show ev (plusL p (timesTo p a b I) b (co a I) I) x % p = _
    rw [ev_plus hp (timesTo_rng hp I), Int.add_emod, ev_timesTo hp x I, ← Int.add_emod, ← Int.add_mul]
    rfl
theorem ev_times {p : Int} {a b : List Int} (hp : 1 ≤ p) (x : Int) : ev (timesL p a b) x % p = ev a x * ev b x % p := by
  unfold timesL; rw [ev_timesTo hp, ← ev_sum]
theorem ev_mod (p x : Int) : ∀ l : List Int, ev l (x % p) % p = ev l x % p
  | [] => rfl
  | k :: t => by
    show (k + x % p * ev t (x % p)) % p = (k + x * ev t x) % p
    rw [Int.add_emod, Int.mul_emod, Int.emod_emod, ev_mod p x t, ← Int.mul_emod, ← Int.add_emod]
theorem div_eq {p : Int} {a b q r : List Int} (hp : 1 ≤ p) (h : DivInv p a b q r) (ha : ∀ x ∈ a, 0 ≤ x ∧ x < p) (hl : a.getLastD 1 ≠ 0) : plusL p (timesL p q b) r 1 0 = a :=
  co_inj (plusL_last _ _ _ _ _) hl fun i => by
    rw [co_sum hp (timesL_rng hp), co_times hp, Int.emod_add_emod, h.eq i]
    have := co_rng hp ha i
    exact Int.emod_eq_of_lt this.1 this.2
theorem factor_law {p x : Int} {a q r : List Int} (g : Good p a) (h : DivInv p a [-x % p, 1] q r) (hr : r.length < 2) :
    (r = [] ∧ valL p a (x % p) = 0) ∨ ∃ y, r = [y] ∧ y ≠ 0 ∧ 0 ≤ y ∧ y < p ∧ valL p a (x % p) = y := by
  have hp : 1 ≤ p := by have := g.prime; omega
  have e := div_eq hp h g.rng g.last
  have e2 : valL p a (x % p) = ev r x % p := by
    rw [valL_ev, ev_mod]
    conv => lhs; rw [← e]
    rw [ev_plus hp (timesL_rng hp), Int.add_emod, ev_times hp, Int.mul_emod, show ev [-x % p, 1] x % p = 0 by
      show (-x % p + x * (1 + x * 0)) % p = 0
      rw [Int.emod_add_emod]
      simp [Int.add_left_neg]]
    simp
  rw [e2]
  match r, hr, h with
  | [], _, _ => exact .inl ⟨rfl, by simp [ev]⟩
  | [y], _, h =>
    have h1 := h.rr y (by simp)
    have h2 : y ≠ 0 := by have := h.rl; simpa using this
    exact .inr ⟨y, rfl, h2, h1.1, h1.2, by show (y + x * 0) % p = y; rw [Int.mul_zero, Int.add_zero, Int.emod_eq_of_lt h1.1 h1.2]⟩
  | _ :: _ :: _, hr, _ => exact absurd hr (by simp)
end Go.Proofs.Ytfgmnlphejpcaaa
