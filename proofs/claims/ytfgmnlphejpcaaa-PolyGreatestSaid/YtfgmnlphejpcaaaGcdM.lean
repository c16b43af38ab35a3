/- Plain: what divides a polynomial; the greatest common divisor. -/
import Derived.Test.YtfgmnlphejpcaaaDivM
namespace Go.Proofs.Ytfgmnlphejpcaaa
set_option linter.unusedVariables false
set_option linter.unusedSimpArgs false
/-- d divides a -/
def Dv (p : Int) (d a : List Int) : Prop := ∃ h : List Int, (∀ x ∈ h, 0 ≤ x ∧ x < p) ∧ timesL p h d = a
noncomputable def dvB (p : Int) (d a : List Int) : Bool := @decide (Dv p d a) (Classical.propDecidable _)
theorem dvB_true {p : Int} {d a : List Int} (h : dvB p d a = true) : Dv p d a := @of_decide_eq_true _ (Classical.propDecidable _) h
theorem dvB_yes {p : Int} {d a : List Int} (h : Dv p d a) : dvB p d a = true := @decide_eq_true _ (Classical.propDecidable _) h
theorem dvB_no {p : Int} {d a : List Int} (h : ¬ Dv p d a) : dvB p d a = false := @decide_eq_false _ (Classical.propDecidable _) h
theorem plus_nil {p : Int} {a : List Int} (hp : 1 ≤ p) (ha : ∀ x ∈ a, 0 ≤ x ∧ x < p) (hl : a.getLastD 1 ≠ 0) : plusL p a [] 1 0 = a :=
  co_inj (plusL_last _ _ _ _ _) hl fun i => by
    have := co_rng hp ha i
    rw [co_sum hp ha, co_out (a := []) (by simp), Int.add_zero, Int.emod_eq_of_lt this.1 this.2]
theorem conv_sub (A B C : Nat → Int) (n : Nat) : conv (fun i => A i + -1 * B i) C n = conv A C n - conv B C n := by
  rw [conv_add, conv_mul]; omega
theorem dv_rem {p : Int} {a d q r : List Int} (ga : Good p a) (gd : Good p d) (h0 : 0 < d.length) (h : DivInv p a d q r) (hr : r.length < d.length) : r.length = 0 ↔ Dv p d a := by
  have hp := ga.prime
  have hp1 : 1 ≤ p := by omega
  constructor
  · intro hz
    obtain rfl : r = [] := List.eq_nil_of_length_eq_zero hz
    refine ⟨q, h.qr, ?_⟩
    have e := div_eq hp1 h ga.rng ga.last
    rw [plus_nil hp1 (timesL_rng hp1) (timesL_last _ _ _)] at e
    exact e
  · rintro ⟨k, hk, e⟩
    have e2 : timesL p (plusL p k q (-1) 0) d = r := co_inj (timesL_last _ _ _) h.rl fun i => by
      have h1 := h.eq i
      have h2 : conv (co k) (co d) i % p = co a i % p := by
        have : co a i = conv (co k) (co d) i % p := by rw [← e]; exact co_times hp1 i
        rw [this, Int.emod_emod]
      have h3 := co_rng hp1 h.rr i
      rw [co_times hp1, conv_mod (A' := fun i => co k i + -1 * co q i) (B' := co d) (fun j => by rw [co_plus hp1 hk, Int.emod_emod, if_pos (Nat.zero_le _), Nat.sub_zero]) (fun j => rfl), conv_sub]
      rw [← Int.emod_eq_of_lt h3.1 h3.2]
      have h4 : (conv (co q) (co d) i + co r i) % p = conv (co k) (co d) i % p := by rw [h1, h2]
      have h5 := Int.emod_emod_of_dvd
      rw [Int.emod_eq_emod_iff_emod_sub_eq_zero] at h4 ⊢
      rw [show conv (co k) (co d) i - conv (co q) (co d) i - co r i = -(conv (co q) (co d) i + co r i - conv (co k) (co d) i) by omega]
      exact Int.emod_eq_zero_of_dvd (Int.dvd_neg.2 (Int.dvd_of_emod_eq_zero h4))
    by_cases ht : 0 < (plusL p k q (-1) 0).length
    · have := ring_len hp.2.2 hp.1 (plusL_rng hp1 hk) gd.rng (plusL_last _ _ _ _ _) gd.last ht h0
      rw [e2] at this
      omega
    · have : plusL p k q (-1) 0 = [] := List.eq_nil_of_length_eq_zero (by omega)
      rw [this] at e2
      rw [← e2]; rfl
theorem dv_times {p : Int} (hp : 1 ≤ p) {d a : List Int} (q : List Int) (h : Dv p d a) : Dv p d (timesL p q a) := by
  obtain ⟨k, hk, e⟩ := h
  exact ⟨timesL p q k, timesL_rng hp, by rw [ring_assoc hp, e]⟩
theorem dv_plus {p : Int} (hp : 1 ≤ p) {d a b : List Int} (h1 : Dv p d a) (h2 : Dv p d b) : Dv p d (plusL p a b 1 0) := by
  obtain ⟨k, hk, e1⟩ := h1
  obtain ⟨l, hl, e2⟩ := h2
  exact ⟨plusL p k l 1 0, plusL_rng hp hk, by rw [ring_dist hp d hk, e1, e2]⟩
theorem dv_nil (p : Int) (d : List Int) : Dv p d [] := ⟨[], fun x hx => by simp at hx, rfl⟩
theorem conv_single (c : Int) (B : Nat → Int) (i : Nat) : conv (co [c]) B i = c * B i := by
  unfold conv
  rw [SumI_single (k := 0) (by omega) (fun j hj hne => by rw [co_out (by simp; omega), Int.zero_mul]), Nat.sub_zero]
  rfl
theorem rest_eq {p : Int} {a b q r : List Int} (hp : 1 ≤ p) (h : DivInv p a b q r) (ha : ∀ x ∈ a, 0 ≤ x ∧ x < p) : plusL p a (timesL p (timesL p [p - 1] q) b) 1 0 = r :=
  co_inj (plusL_last _ _ _ _ _) h.rl fun i => by
    have h3 := co_rng hp h.rr i
    rw [co_sum hp ha, co_times hp, Int.add_emod, conv_mod (A' := fun j => (p - 1) * co q j) (B' := co b) (fun j => by rw [co_times hp, Int.emod_emod, conv_single]) (fun j => rfl), conv_mul, Int.emod_emod, ← h.eq i, ← Int.add_emod]
    rw [show conv (co q) (co b) i + co r i + (p - 1) * conv (co q) (co b) i = co r i + p * conv (co q) (co b) i by rw [Int.sub_mul]; omega, Int.add_mul_emod_self_left, Int.emod_eq_of_lt h3.1 h3.2]
/-- where the loop of Gcd stands -/
structure GInv (p : Int) (xs ys A B : List Int) : Prop where
  ar : ∀ x ∈ A, 0 ≤ x ∧ x < p
  al : A.getLastD 1 ≠ 0
  an : A.length ≤ 13
  br : ∀ x ∈ B, 0 ≤ x ∧ x < p
  bl : B.getLastD 1 ≠ 0
  bn : B.length ≤ 13
  dv : ∀ d, Dv p d A ∧ Dv p d B ↔ Dv p d xs ∧ Dv p d ys
  ne : ¬ (xs.length = 0 ∧ ys.length = 0) → ¬ (A.length = 0 ∧ B.length = 0)
  em : (xs.length = 0 ∧ ys.length = 0) → (A.length = 0 ∧ B.length = 0)
theorem ginv_init {p : Int} {xs ys : List Int} (g1 : Good p xs) (g2 : Good p ys) : GInv p xs ys xs ys :=
  ⟨g1.rng, g1.last, g1.len, g2.rng, g2.last, g2.len, fun d => Iff.rfl, id, id⟩
theorem ginv_step {p : Int} {xs ys A B q r : List Int} (hp : 1 ≤ p) (h : GInv p xs ys A B) (hd : DivInv p A B q r) (hl : r.length < B.length) : GInv p xs ys B r := by
  refine ⟨h.br, h.bl, h.bn, hd.rr, hd.rl, by have := h.bn; omega, fun d => ?_, fun _ => by omega, fun e => by have := h.em e; omega⟩
  rw [← h.dv d]
  constructor
  · rintro ⟨h1, h2⟩
    refine ⟨?_, h1⟩
    rw [← div_eq hp hd h.ar h.al]
    exact dv_plus hp (dv_times hp q h1) h2
  · rintro ⟨h1, h2⟩
    refine ⟨h2, ?_⟩
    rw [← rest_eq hp hd h.ar]
    exact dv_plus hp h1 (dv_times hp _ h2)
/-- what Gcd answers -/
structure GcdPost (p : Int) (xs ys g : List Int) : Prop where
  pos : 0 < g.length
  last : g[g.length - 1]? = some 1
  good : Good p g
  d1 : Dv p g xs
  d2 : Dv p g ys
  dv : ∀ d, Dv p d xs → Dv p d ys → Dv p d g
theorem gcd_end {p : Int} {xs ys A B : List Int} (g1 : Good p xs) (h : GInv p xs ys A B) (hB : B.length = 0) (hA : 0 < A.length) (c : Int) (hc : 0 ≤ c ∧ c < p) (h1 : c * co A (A.length - 1) % p = 1) : GcdPost p xs ys (plusL p [] A c 0) := by
  have hp := g1.prime
  have hp1 : 1 ≤ p := by omega
  have ec : ∀ i, co (plusL p [] A c 0) i = c * co A i % p := fun i => by
    rw [co_plus hp1 (fun x hx => by simp at hx), if_pos (Nat.zero_le _), Nat.sub_zero, co_out (a := []) (by simp), Int.zero_add]
  have hlen : (plusL p [] A c 0).length = A.length - 1 + 1 := len_at (plusL_last _ _ _ _ _) (by rw [ec, h1]; decide) fun i hi => by rw [ec, co_out (by omega)]; simp
  have hg : Good p (plusL p [] A c 0) := ⟨g1.pr, by have := h.an; omega, plusL_rng hp1 (fun x hx => by simp at hx), plusL_last _ _ _ _ _⟩
  have e1 : plusL p [] A c 0 = timesL p [c] A := rfl
  have e2 : timesL p [co A (A.length - 1)] (plusL p [] A c 0) = A := co_inj (timesL_last _ _ _) h.al fun i => by
    have h3 := co_rng hp1 h.ar i
    rw [co_times hp1, conv_single, ec]
    obtain ⟨l, hl⟩ : ∃ l, co A (A.length - 1) = l := ⟨_, rfl⟩
    rw [hl] at h1 ⊢
    rw [Int.mul_emod, Int.emod_emod, ← Int.mul_emod, ← Int.mul_assoc, Int.mul_comm l c, Int.mul_emod, h1, Int.one_mul, Int.emod_emod, Int.emod_eq_of_lt h3.1 h3.2]
  obtain rfl : B = [] := List.eq_nil_of_length_eq_zero hB
  have h4 : Dv p (plusL p [] A c 0) A := ⟨[co A (A.length - 1)], fun x hx => by simp at hx; rw [hx]; exact co_rng hp1 h.ar _, e2⟩
  have h5 := (h.dv _).1 ⟨h4, dv_nil _ _⟩
  refine ⟨by omega, ?_, hg, h5.1, h5.2, fun d q1 q2 => ?_⟩
  · rw [List.getElem?_eq_getElem (by omega), ← co_in (by omega), ec, hlen, Nat.add_sub_cancel, h1]
  · rw [e1]
    exact dv_times hp1 _ ((h.dv d).2 ⟨q1, q2⟩).1
end Go.Proofs.Ytfgmnlphejpcaaa
