/- Plain: elements of a field as numbers: digits; sums and products. -/
import Derived.Test.YtkkefbjmdbjbhaaFldC
namespace Go.Proofs.Ytkkefbjmdbjbhaa
set_option linter.unusedVariables false
set_option linter.unusedSimpArgs false
def digN (p : Nat) : Nat → Nat → List Int
  | 0, _ => []
  | f + 1, a => if a = 0 then [] else ((a % p : Nat) : Int) :: digN p f (a / p)
/-- digits, the lowest first -/
def digL (p a : Nat) : List Int := digN p a a
theorem digN_fuel {p : Nat} (hp : 2 ≤ p) : ∀ (f g a : Nat), a ≤ f → a ≤ g → digN p f a = digN p g a := by
  intro f
  induction f with
  | zero => intro g a h1 h2; obtain rfl : a = 0 := by omega
            cases g <;> simp [digN]
  | succ f ih =>
    intro g a h1 h2
    cases g with
    | zero => obtain rfl : a = 0 := by omega
              simp [digN]
    | succ g =>
      by_cases e : a = 0
      · simp [digN, e]
      · have : a / p < a := Nat.div_lt_self (by omega) (by omega)
        simp only [digN, if_neg e]
        rw [ih g (a / p) (by omega) (by omega)]
theorem digL_zero (p : Nat) : digL p 0 = [] := rfl
theorem digL_cons {p a : Nat} (hp : 2 ≤ p) (h : 0 < a) : digL p a = ((a % p : Nat) : Int) :: digL p (a / p) := by
  unfold digL
  obtain ⟨b, rfl⟩ : ∃ b, a = b + 1 := ⟨a - 1, by omega⟩
  show (if b + 1 = 0 then [] else _) = _
  rw [if_neg (by omega)]
  have : (b + 1) / p < b + 1 := Nat.div_lt_self (by omega) (by omega)
  rw [digN_fuel hp b ((b + 1) / p) _ (by omega) (Nat.le_refl _)]
/-- a polynomial's number -/
def numL (p : Nat) (l : List Int) : Nat := l.foldr (fun x n => n * p + x.toNat) 0
theorem numL_cons (p : Nat) (x : Int) (l : List Int) : numL p (x :: l) = numL p l * p + x.toNat := rfl
theorem dig_ind {p : Nat} (hp : 2 ≤ p) {P : Nat → Prop} (h0 : P 0) (hs : ∀ a, 0 < a → P (a / p) → P a) (a : Nat) : P a := by
  induction a using Nat.strongRecOn with
  | ind a ih =>
    by_cases e : a = 0
    · subst e; exact h0
    · exact hs a (by omega) (ih _ (Nat.div_lt_self (by omega) (by omega)))
theorem num_dig {p : Nat} (hp : 2 ≤ p) (a : Nat) : numL p (digL p a) = a := by
  refine dig_ind hp (P := fun a => numL p (digL p a) = a) rfl (fun a ha ih => ?_) a
  rw [digL_cons hp ha, numL_cons, ih, Int.toNat_natCast]
  exact Nat.div_add_mod' a p
theorem dig_rng {p : Nat} (hp : 2 ≤ p) (a : Nat) : ∀ x ∈ digL p a, 0 ≤ x ∧ x < (p : Int) := by
  refine dig_ind hp (P := fun a => ∀ x ∈ digL p a, 0 ≤ x ∧ x < (p : Int)) (by simp [digL_zero]) (fun a ha ih => ?_) a
  rw [digL_cons hp ha]
  intro x hx
  rcases List.mem_cons.1 hx with rfl | hx
  · have := Nat.mod_lt a (show 0 < p by omega); omega
  · exact ih x hx
theorem dig_nil {p a : Nat} (hp : 2 ≤ p) : digL p a = [] ↔ a = 0 := by
  constructor
  · intro h
    by_cases e : a = 0
    · exact e
    · rw [digL_cons hp (by omega)] at h; cases h
  · rintro rfl; rfl
theorem dig_last {p : Nat} (hp : 2 ≤ p) (a : Nat) : (digL p a).getLastD 1 ≠ 0 := by
  refine dig_ind hp (P := fun a => (digL p a).getLastD 1 ≠ 0) (by simp [digL_zero]) (fun a ha ih => ?_) a
  rw [digL_cons hp ha]
  by_cases e : a / p = 0
  · rw [e, digL_zero]
    have : a % p = a := Nat.mod_eq_of_lt ((Nat.div_eq_zero_iff_lt (by omega)).1 e)
    rw [this]
    show (a : Int) ≠ 0
    omega
  · have hne : digL p (a / p) ≠ [] := fun h => e ((dig_nil hp).1 h)
    obtain ⟨y, t, ht⟩ := List.exists_cons_of_ne_nil hne
    rw [ht] at ih ⊢
    exact ih
theorem dig_pl {p : Nat} (hp : 2 ≤ p) (a : Nat) : Pl p (digL p a) := ⟨dig_rng hp a, dig_last hp a⟩
theorem Pl.tail {p x : Int} {t : List Int} (h : Pl p (x :: t)) : Pl p t := by
  refine ⟨fun y hy => h.rng y (List.mem_cons_of_mem _ hy), ?_⟩
  have := h.last
  cases t with
  | nil => simp
  | cons y s => exact this
theorem num_pos {p : Nat} (hp : 2 ≤ p) : ∀ {l : List Int}, Pl p l → l ≠ [] → 0 < numL p l
  | [], _, h => absurd rfl h
  | [x], h, _ => by
    have h1 := h.last
    have h2 := h.rng x (by simp)
    rw [numL_cons]
    simp at h1
    have : 0 < x.toNat := by omega
    omega
  | x :: y :: t, h, _ => by
    have := num_pos hp h.tail (by simp)
    rw [numL_cons]
    have := Nat.mul_pos this (show 0 < p by omega)
    omega
theorem dig_num {p : Nat} (hp : 2 ≤ p) : ∀ {l : List Int}, Pl p l → digL p (numL p l) = l
  | [], _ => rfl
  | x :: t, h => by
    have hx := h.rng x (by simp)
    have h1 := num_pos hp h (by simp)
    rw [digL_cons hp h1, numL_cons]
    have e1 : (numL p t * p + x.toNat) % p = x.toNat := by
      rw [Nat.add_comm, Nat.add_mul_mod_self_right, Nat.mod_eq_of_lt (by omega)]
    have e2 : (numL p t * p + x.toNat) / p = numL p t := by
      rw [Nat.add_comm, Nat.add_mul_div_right _ _ (by omega), Nat.div_eq_of_lt (by omega), Nat.zero_add]
    rw [e1, e2, dig_num hp h.tail]
    congr 1; omega
theorem num_lt {p : Nat} (hp : 2 ≤ p) : ∀ {l : List Int}, (∀ x ∈ l, 0 ≤ x ∧ x < (p : Int)) → numL p l < p ^ l.length
  | [], _ => by simp [numL]
  | x :: t, h => by
    have hx := h x (by simp)
    have ih := num_lt hp (l := t) fun y hy => h y (by simp [hy])
    rw [numL_cons, List.length_cons, Nat.pow_succ]
    have : (numL p t + 1) * p ≤ p ^ t.length * p := Nat.mul_le_mul_right _ ih
    rw [Nat.add_mul] at this
    omega
theorem dig_len {p : Nat} (hp : 2 ≤ p) : ∀ (m a : Nat), a < p ^ m → (digL p a).length ≤ m
  | 0, a, h => by
    obtain rfl : a = 0 := by simpa using h
    simp [digL_zero]
  | m + 1, a, h => by
    by_cases e : a = 0
    · subst e; simp [digL_zero]
    · rw [digL_cons hp (by omega), List.length_cons]
      have : a / p < p ^ m := by
        rw [Nat.div_lt_iff_lt_mul (by omega)]
        rw [Nat.pow_succ] at h; exact h
      have := dig_len hp m (a / p) this
      omega
theorem dig_inj {p : Nat} (hp : 2 ≤ p) {a b : Nat} (h : digL p a = digL p b) : a = b := by rw [← num_dig hp a, h, num_dig hp b]
/-- a field's prime and polynomial -/
structure Fld (p : Nat) (f : List Int) (m : Nat) : Prop where
  p2 : 2 ≤ p
  p251 : p ≤ 251
  pr : prB p = true
  mon : Mon p f m
  m1 : 1 ≤ m
  m12 : m ≤ 12
  small : p ^ m ≤ 4096
/-- a product -/
noncomputable def mulF (p : Nat) (f : List Int) (a b : Nat) : Nat := numL p (remL p (timesL p (digL p a) (digL p b)) f)
/-- a sum -/
def addF (p a b : Nat) : Nat := numL p (plusL p (digL p a) (digL p b) 1 0)
def el (p a : Nat) : Nat → Int := co (digL p a)
theorem FS.el (p a : Nat) : FS (el p a) := FS.co _
section
variable {p m : Nat} {f : List Int}
theorem Fld.ip (h : Fld p f m) : (1 : Int) ≤ p := by have := h.p2; omega
theorem Fld.uniq (h : Fld p f m) {a b : Nat} (ha : a < p ^ m) (hb : b < p ^ m) (hc : Cg p (co f) (el p a) (el p b)) : a = b :=
  dig_inj h.p2 (h.mon.uniq h.ip (dig_pl h.p2 a) (dig_pl h.p2 b) (dig_len h.p2 m a ha) (dig_len h.p2 m b hb) hc)
theorem Fld.rem (h : Fld p f m) {a : List Int} (ha : Pl p a) : Pl p (remL p a f) ∧ (remL p a f).length ≤ m ∧ Cg p (co f) (co (remL p a f)) (co a) := by
  have hl := h.mon.len
  obtain ⟨q, hd, hlt⟩ := remL_spec h.pr (by have := h.p2; omega) ha h.mon.pl (by omega)
  exact ⟨hd.pl, by omega, hd.cg.symm⟩
theorem Fld.mul_lt (h : Fld p f m) (a b : Nat) : mulF p f a b < p ^ m := by
  obtain ⟨h1, h2, _⟩ := h.rem (Pl.times h.ip (digL p a) (digL p b))
  exact Nat.lt_of_lt_of_le (num_lt h.p2 h1.rng) (Nat.pow_le_pow_right (by have := h.p2; omega) h2)
theorem Fld.mul_cg (h : Fld p f m) (a b : Nat) : Cg p (co f) (el p (mulF p f a b)) (conv (el p a) (el p b)) := by
  obtain ⟨h1, h2, h3⟩ := h.rem (Pl.times h.ip (digL p a) (digL p b))
  unfold el mulF
  rw [dig_num h.p2 h1]
  exact h3.trans (Cg.of_mod fun i => by rw [co_times h.ip, Int.emod_emod_of_dvd _ (Int.dvd_refl _)])
theorem Fld.add_lt (h : Fld p f m) {a b : Nat} (ha : a < p ^ m) (hb : b < p ^ m) : addF p a b < p ^ m := by
  have hp := plusL_rng (b := digL p b) (k := 1) (up := 0) h.ip (dig_rng h.p2 a)
  have hl := plusL_len p (digL p a) (digL p b) 1 0
  have h1 := dig_len h.p2 m a ha
  have h2 := dig_len h.p2 m b hb
  exact Nat.lt_of_lt_of_le (num_lt h.p2 hp) (Nat.pow_le_pow_right (by have := h.p2; omega) (by omega))
theorem Fld.add_cg (h : Fld p f m) (a b : Nat) : Cg p (co f) (el p (addF p a b)) (fun i => el p a i + el p b i) := by
  have hp : Pl p (plusL p (digL p a) (digL p b) 1 0) := Pl.plus h.ip (dig_pl h.p2 a)
  unfold el addF
  rw [dig_num h.p2 hp]
  exact Cg.of_mod fun i => by rw [co_sum h.ip (dig_rng h.p2 a), Int.emod_emod_of_dvd _ (Int.dvd_refl _)]
theorem Fld.add_comm (h : Fld p f m) (a b : Nat) : addF p a b = addF p b a := by
  unfold addF; rw [ring_addc h.ip (dig_rng h.p2 a) (dig_rng h.p2 b)]
theorem Fld.mul_comm (h : Fld p f m) (a b : Nat) : mulF p f a b = mulF p f b a := by
  unfold mulF; rw [ring_comm h.ip]
theorem Fld.mul_assoc (h : Fld p f m) (a b c : Nat) : mulF p f (mulF p f a b) c = mulF p f a (mulF p f b c) := by
  refine h.uniq (h.mul_lt _ _) (h.mul_lt _ _) ?_
  refine (h.mul_cg _ _).trans (((h.mul_cg a b).mulr (FS.el p c)).trans (Cg.symm ?_))
  refine (h.mul_cg _ _).trans ?_
  have h2 := (h.mul_cg b c).mulr (FS.el p a)
  rw [show conv (el p (mulF p f b c)) (el p a) = conv (el p a) (el p (mulF p f b c)) from funext fun i => conv_comm _ _ i] at h2
  refine h2.trans ?_
  rw [show conv (conv (el p b) (el p c)) (el p a) = conv (conv (el p a) (el p b)) (el p c) from funext fun i => by rw [conv_comm, ← conv_assoc]]
  exact Cg.refl _ _ _
theorem Fld.dist (h : Fld p f m) {a b c : Nat} (ha : a < p ^ m) (hb : b < p ^ m) : mulF p f (addF p a b) c = addF p (mulF p f a c) (mulF p f b c) := by
  refine h.uniq (h.mul_lt _ _) (h.add_lt (h.mul_lt _ _) (h.mul_lt _ _)) ?_
  refine (h.mul_cg _ _).trans (((h.add_cg a b).mulr (FS.el p c)).trans (Cg.symm ?_))
  refine (h.add_cg _ _).trans (((h.mul_cg a c).add (h.mul_cg b c)).trans ?_)
  rw [show conv (fun i => el p a i + el p b i) (el p c) = fun i => conv (el p a) (el p c) i + conv (el p b) (el p c) i from funext fun i => conv_add _ _ _ i]
  exact Cg.refl _ _ _
theorem dig_one (hp : 2 ≤ p) : digL p 1 = [1] := by
  rw [digL_cons hp (by omega), Nat.div_eq_of_lt (by omega), digL_zero, Nat.mod_eq_of_lt (by omega)]; rfl
theorem conv_one (A : Nat → Int) (n : Nat) : conv (co [1]) A n = A n := by
  unfold conv
  rw [SumI_single (k := 0) (by omega) (fun i _ hi => by rw [co_out (by simp; omega), Int.zero_mul])]
  show co [1] 0 * A (n - 0) = A n
  rw [Nat.sub_zero]; show 1 * A n = A n; omega
theorem Fld.one_mul (h : Fld p f m) {a : Nat} (ha : a < p ^ m) : mulF p f 1 a = a := by
  refine h.uniq (h.mul_lt _ _) ha ((h.mul_cg 1 a).trans ?_)
  rw [show el p 1 = co [1] from by unfold el; rw [dig_one h.p2], show conv (co [1]) (el p a) = el p a from funext fun i => conv_one _ i]
  exact Cg.refl _ _ _
theorem Fld.one_lt (h : Fld p f m) : 1 < p ^ m := Nat.one_lt_pow (by have := h.m1; omega) h.p2
end
end Go.Proofs.Ytkkefbjmdbjbhaa
