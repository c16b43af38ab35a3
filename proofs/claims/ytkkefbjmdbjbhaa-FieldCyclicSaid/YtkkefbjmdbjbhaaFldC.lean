/- Plain: polynomials by a prime and a polynomial: congruence, what is left, digits. -/
import Derived.Test.YtkkefbjmdbjbhaaOver
import Derived.Test.YtkkefbjmdbjbhaaDivM
namespace Go.Proofs.Ytkkefbjmdbjbhaa
set_option linter.unusedVariables false
set_option linter.unusedSimpArgs false
def FS (q : Nat → Int) : Prop := ∃ n, ∀ i, n ≤ i → q i = 0
/-- the same, as far as what is left by the prime and the polynomial goes -/
def Cg (p : Int) (F A B : Nat → Int) : Prop := ∃ q, FS q ∧ ∀ i, p ∣ A i - B i - conv q F i
theorem SumI_dvd {p : Int} {f : Nat → Int} : ∀ {n : Nat}, (∀ i, i < n → p ∣ f i) → p ∣ SumI n f
  | 0, _ => ⟨0, by simp [SumI]⟩
  | n + 1, h => Int.dvd_add (SumI_dvd fun i hi => h i (by omega)) (h n (by omega))
theorem conv_dvd {p : Int} {A : Nat → Int} (h : ∀ i, p ∣ A i) (B : Nat → Int) (n : Nat) : p ∣ conv A B n := SumI_dvd fun i _ => Int.dvd_trans (h i) (Int.dvd_mul_right _ _)
theorem conv_zero (B : Nat → Int) (n : Nat) : conv (fun _ => 0) B n = 0 := SumI_zero fun i _ => by simp
theorem conv_neg (A B : Nat → Int) (n : Nat) : conv (fun i => - A i) B n = - conv A B n := by
  have := conv_mul (-1) A B n
  simp only [Int.neg_mul, Int.one_mul] at this
  exact this
theorem conv_sub (A B C : Nat → Int) (n : Nat) : conv (fun i => A i - B i) C n = conv A C n - conv B C n := by
  have := conv_add A (fun i => - B i) C n
  rw [conv_neg] at this
  simpa [Int.sub_eq_add_neg] using this
theorem conv_congr {A A' B B' : Nat → Int} (h1 : ∀ i, A i = A' i) (h2 : ∀ i, B i = B' i) (n : Nat) : conv A B n = conv A' B' n := by
  rw [show A = A' from funext h1, show B = B' from funext h2]
theorem FS.zero : FS fun _ => 0 := ⟨0, fun _ _ => rfl⟩
theorem FS.neg {q : Nat → Int} (h : FS q) : FS fun i => - q i := by obtain ⟨n, h⟩ := h; exact ⟨n, fun i hi => by show - q i = 0; rw [h i hi]; rfl⟩
theorem FS.add {q r : Nat → Int} (h : FS q) (h' : FS r) : FS fun i => q i + r i := by
  obtain ⟨n, h⟩ := h; obtain ⟨m, h'⟩ := h'
  exact ⟨n + m, fun i hi => by show q i + r i = 0; rw [h i (by omega), h' i (by omega)]; rfl⟩
theorem FS.mul {q r : Nat → Int} (h : FS q) (h' : FS r) : FS (conv q r) := by
  obtain ⟨n, h⟩ := h; obtain ⟨m, h'⟩ := h'
  refine ⟨n + m, fun i hi => SumI_zero fun j hj => ?_⟩
  by_cases e : n ≤ j
  · rw [h j e, Int.zero_mul]
  · rw [h' (i - j) (by omega), Int.mul_zero]
theorem FS.co (l : List Int) : FS (co l) := ⟨l.length, fun i hi => co_out hi⟩
section
variable {p : Int} {F A B C D : Nat → Int}
theorem Cg.refl (p : Int) (F A : Nat → Int) : Cg p F A A := ⟨fun _ => 0, FS.zero, fun i => ⟨0, by rw [conv_zero]; simp⟩⟩
theorem Cg.of_mod (h : ∀ i, A i % p = B i % p) : Cg p F A B := ⟨fun _ => 0, FS.zero, fun i => by
  rw [conv_zero, Int.sub_zero]; exact Int.dvd_of_emod_eq_zero (Int.emod_eq_emod_iff_emod_sub_eq_zero.1 (h i))⟩
theorem Cg.symm (h : Cg p F A B) : Cg p F B A := by
  obtain ⟨q, h1, h2⟩ := h
  refine ⟨fun i => - q i, h1.neg, fun i => ?_⟩
  rw [conv_neg]
  have := Int.dvd_neg.2 (h2 i)
  rwa [show -(A i - B i - conv q F i) = B i - A i - - conv q F i by omega] at this
theorem Cg.trans (h : Cg p F A B) (h' : Cg p F B C) : Cg p F A C := by
  obtain ⟨q, h1, h2⟩ := h
  obtain ⟨r, h3, h4⟩ := h'
  refine ⟨fun i => q i + r i, h1.add h3, fun i => ?_⟩
  rw [conv_add]
  have := Int.dvd_add (h2 i) (h4 i)
  rwa [show A i - B i - conv q F i + (B i - C i - conv r F i) = A i - C i - (conv q F i + conv r F i) by omega] at this
theorem Cg.add (h : Cg p F A B) (h' : Cg p F C D) : Cg p F (fun i => A i + C i) (fun i => B i + D i) := by
  obtain ⟨q, h1, h2⟩ := h
  obtain ⟨r, h3, h4⟩ := h'
  refine ⟨fun i => q i + r i, h1.add h3, fun i => ?_⟩
  rw [conv_add]
  have := Int.dvd_add (h2 i) (h4 i)
  rwa [show A i - B i - conv q F i + (C i - D i - conv r F i) = A i + C i - (B i + D i) - (conv q F i + conv r F i) by omega] at this
theorem conv_swap (q F C : Nat → Int) (i : Nat) : conv (conv q F) C i = conv (conv q C) F i := by
  rw [conv_assoc, conv_congr (fun _ => rfl) (fun j => conv_comm F C j), ← conv_assoc]
theorem Cg.mulr (h : Cg p F A B) (hC : FS C) : Cg p F (conv A C) (conv B C) := by
  obtain ⟨q, h1, h2⟩ := h
  refine ⟨conv q C, h1.mul hC, fun i => ?_⟩
  have := conv_dvd h2 C i
  rw [conv_sub (fun i => A i - B i) (conv q F) C, conv_sub A B C, conv_swap] at this
  exact this
theorem Cg.mul (h : Cg p F A B) (h' : Cg p F C D) (hC : FS C) (hB : FS B) : Cg p F (conv A C) (conv B D) := by
  refine (h.mulr hC).trans ?_
  have := h'.mulr hB
  rwa [show conv C B = conv B C from funext fun i => conv_comm C B i, show conv D B = conv B D from funext fun i => conv_comm D B i] at this
/-- what is small is the only one -/
theorem Cg.uniq' {m : Nat} (hp : 1 ≤ p) (hF : ∀ x, p ∣ x * F m → p ∣ x) (hF2 : ∀ i, m < i → F i = 0) (hA : ∀ i, m ≤ i → A i = 0) (hB : ∀ i, m ≤ i → B i = 0) (rA : ∀ i, 0 ≤ A i ∧ A i < p) (rB : ∀ i, 0 ≤ B i ∧ B i < p) (h : Cg p F A B) : ∀ i, A i = B i := by
  obtain ⟨q, ⟨n, hn⟩, hq⟩ := h
  have key : ∀ d i, n ≤ i + d → p ∣ q i := by
    intro d
    induction d with
    | zero => intro i hi; rw [hn i (by omega)]; exact ⟨0, by simp⟩
    | succ d ih =>
      intro i hi
      by_cases e : n ≤ i + d
      · exact ih i e
      have h1 := hq (i + m)
      rw [hA (i + m) (by omega), hB (i + m) (by omega)] at h1
      have h2 : p ∣ conv q F (i + m) := by
        have := Int.dvd_neg.2 h1
        rwa [show -(0 - 0 - conv q F (i + m)) = conv q F (i + m) by omega] at this
      unfold conv at h2
      rw [show i + m + 1 = i + (1 + m) by omega, SumI_append, SumI_zero (n := i) (fun j hj => by rw [hF2 (i + m - j) (by omega), Int.mul_zero]), Int.zero_add, SumI_append] at h2
      have h3 : p ∣ SumI m (fun j => q (i + (1 + j)) * F (i + m - (i + (1 + j)))) := SumI_dvd fun j _ => Int.dvd_trans (ih _ (by omega)) (Int.dvd_mul_right _ _)
      have h4 := Int.dvd_sub h2 h3
      have h5 : SumI 1 (fun j => q (i + j) * F (i + m - (i + j))) = q i * F m := by
        show 0 + q (i + 0) * F (i + m - (i + 0)) = q i * F m
        rw [Nat.add_zero, show i + m - i = m by omega]; omega
      rw [h5] at h4
      rw [show q i * F m + SumI m (fun i_1 => q (i + (1 + i_1)) * F (i + m - (i + (1 + i_1)))) - SumI m (fun j => q (i + (1 + j)) * F (i + m - (i + (1 + j)))) = q i * F m by omega] at h4
      exact hF _ h4
  intro i
  have h1 := hq i
  have h2 := conv_dvd (fun j => key n j (by omega)) F i
  have h3 := Int.dvd_add h1 h2
  rw [show A i - B i - conv q F i + conv q F i = A i - B i by omega] at h3
  have := Int.emod_eq_emod_iff_emod_sub_eq_zero.2 (Int.emod_eq_zero_of_dvd h3)
  rwa [Int.emod_eq_of_lt (rA i).1 (rA i).2, Int.emod_eq_of_lt (rB i).1 (rB i).2] at this
theorem Cg.uniq {m : Nat} (hp : 1 ≤ p) (hF : F m = 1) (hF2 : ∀ i, m < i → F i = 0) (hA : ∀ i, m ≤ i → A i = 0) (hB : ∀ i, m ≤ i → B i = 0) (rA : ∀ i, 0 ≤ A i ∧ A i < p) (rB : ∀ i, 0 ≤ B i ∧ B i < p) (h : Cg p F A B) : ∀ i, A i = B i :=
  Cg.uniq' hp (fun x hx => by rwa [hF, Int.mul_one] at hx) hF2 hA hB rA rB h
end
/-- polynomials of numbers, without zeros at the end -/
structure Pl (p : Int) (a : List Int) : Prop where
  rng : ∀ x ∈ a, 0 ≤ x ∧ x < p
  last : a.getLastD 1 ≠ 0
theorem Pl.nil (p : Int) : Pl p [] := ⟨by simp, by simp⟩
theorem Pl.co_rng {p : Int} {a : List Int} (hp : 1 ≤ p) (h : Pl p a) (i : Nat) : 0 ≤ co a i ∧ co a i < p := Go.Proofs.Ytkkefbjmdbjbhaa.co_rng hp h.rng i
theorem Pl.ext {p : Int} {a b : List Int} (ha : Pl p a) (hb : Pl p b) (h : ∀ i, co a i = co b i) : a = b := co_inj ha.last hb.last h
theorem Pl.times {p : Int} (hp : 1 ≤ p) (a b : List Int) : Pl p (timesL p a b) := ⟨timesL_rng hp, timesL_last p a b⟩
theorem Pl.plus {p : Int} (hp : 1 ≤ p) {a b : List Int} {k : Int} {up : Nat} (ha : Pl p a) : Pl p (plusL p a b k up) := ⟨plusL_rng hp ha.rng, plusL_last _ _ _ _ _⟩
/-- division with what is left -/
theorem div_ex {p : Int} (hpr : prB p = true) (h2 : 2 ≤ p) {a b : List Int} (ha : Pl p a) (hb : Pl p b) (hb0 : 0 < b.length) : ∃ q r, DivInv p a b q r ∧ r.length < b.length := by
  have hP := prB_true hpr
  have hl : co b (b.length - 1) ≠ 0 := co_last hb.last hb0
  have hlr := hb.co_rng (by omega) (b.length - 1)
  obtain ⟨lead, hlead⟩ : ∃ lead : Int, lead * co b (b.length - 1) % p = 1 := by
    obtain ⟨y, hy⟩ : ∃ y, co b (b.length - 1) = y := ⟨_, rfl⟩
    rw [hy] at hl hlr ⊢
    refine ⟨y ^ (p.toNat - 2), ?_⟩
    have hd : ¬ (p.toNat : Int) ∣ y := fun h => by have := Int.le_of_dvd (by omega) h; omega
    have := M.fermat_int1 hP hd
    have e : p.toNat - 1 = p.toNat - 2 + 1 := by omega
    rw [e, Int.pow_succ] at this
    rwa [show ((p.toNat : Nat) : Int) = p by omega] at this
  have step : ∀ n q r, r.length ≤ n → DivInv p a b q r → ∃ q r, DivInv p a b q r ∧ r.length < b.length := by
    intro n
    induction n with
    | zero => intro q r hr h; exact ⟨q, r, h, by omega⟩
    | succ n ih =>
      intro q r hr h
      by_cases hlt : r.length < b.length
      · exact ⟨q, r, h, hlt⟩
      · obtain ⟨h3, h4⟩ := div_step (p := p) (by omega) h hb0 (by omega) hlead _ rfl (r.length - b.length) (by omega)
        exact ih _ _ (by omega) h3
  exact step a.length [] a (Nat.le_refl _) (div_init ha.rng ha.last)
/-- a polynomial that makes a field's elements: the last number 1 -/
structure Mon (p : Int) (f : List Int) (m : Nat) : Prop where
  pl : Pl p f
  len : f.length = m + 1
  lead : co f m = 1
theorem DivInv.cg {p : Int} {a f q r : List Int} (h : DivInv p a f q r) : Cg p (co f) (co a) (co r) := ⟨co q, FS.co q, fun i => by
  have := Int.dvd_of_emod_eq_zero (Int.emod_eq_emod_iff_emod_sub_eq_zero.1 (h.eq i))
  have := Int.dvd_neg.2 this
  rwa [show -(conv (co q) (co f) i + co r i - co a i) = co a i - co r i - conv (co q) (co f) i by omega] at this⟩
theorem DivInv.pl {p : Int} {a f q r : List Int} (h : DivInv p a f q r) : Pl p r := ⟨h.rr, h.rl⟩
theorem Mon.uniq {p : Int} {f : List Int} {m : Nat} (hp : 1 ≤ p) (hf : Mon p f m) {a b : List Int} (ha : Pl p a) (hb : Pl p b) (la : a.length ≤ m) (lb : b.length ≤ m) (h : Cg p (co f) (co a) (co b)) : a = b :=
  ha.ext hb (Cg.uniq hp hf.lead (fun i hi => co_out (by rw [hf.len]; omega)) (fun i hi => co_out (by omega)) (fun i hi => co_out (by omega)) (ha.co_rng hp) (hb.co_rng hp) h)
/-- what is left -/
noncomputable def remL (p : Int) (a f : List Int) : List Int := @dite _ (∃ r q, DivInv p a f q r ∧ r.length < f.length) (Classical.propDecidable _) (fun h => h.choose) (fun _ => [])
theorem remL_spec {p : Int} (hpr : prB p = true) (h2 : 2 ≤ p) {a f : List Int} (ha : Pl p a) (hf : Pl p f) (hf0 : 0 < f.length) : ∃ q, DivInv p a f q (remL p a f) ∧ (remL p a f).length < f.length := by
  have h : ∃ r q, DivInv p a f q r ∧ r.length < f.length := by
    obtain ⟨q, r, h⟩ := div_ex hpr h2 ha hf hf0
    exact ⟨r, q, h⟩
  unfold remL
  rw [dif_pos h]
  exact h.choose_spec
theorem remL_uniq {p : Int} {f : List Int} {m : Nat} (hpr : prB p = true) (h2 : 2 ≤ p) (hf : Mon p f m) {a q r : List Int} (ha : Pl p a) (h : DivInv p a f q r) (hr : r.length < f.length) : r = remL p a f := by
  obtain ⟨q', h', hl⟩ := remL_spec hpr h2 ha hf.pl (by rw [hf.len]; omega)
  have := hf.len
  exact hf.uniq (by omega) h.pl h'.pl (by omega) (by omega) (h.cg.symm.trans h'.cg)
end Go.Proofs.Ytkkefbjmdbjbhaa
