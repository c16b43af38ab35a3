/- Plain: where no polynomial of half the degree divides, all but 0 have an inverse. -/
import Derived.Test.YtkkefbjmdbjbhaaFldD
namespace Go.Proofs.Ytkkefbjmdbjbhaa
set_option linter.unusedVariables false
set_option linter.unusedSimpArgs false
/-- does a polynomial divide another one? -/
def DvP (p : Int) (d a : List Int) : Prop := Cg p (co d) (co a) (fun _ => 0)
/-- no divisor of half the degree -/
def Irr (p : Int) (f : List Int) (m : Nat) : Prop := ∀ d, Pl p d → 2 ≤ d.length → 2 * d.length ≤ m + 2 → ¬ DvP p d f
theorem lead_inv {p : Int} (hpr : prB p = true) (h2 : 2 ≤ p) {y : Int} (h : 0 < y) (h' : y < p) : ∃ c, 0 < c ∧ c < p ∧ c * y % p = 1 := by
  have hP := prB_true hpr
  have hd : ¬ (p.toNat : Int) ∣ y := fun h => by have := Int.le_of_dvd (by omega) h; omega
  have hf := M.fermat_int1 hP hd
  have e : p.toNat - 1 = p.toNat - 2 + 1 := by omega
  rw [e, Int.pow_succ, show ((p.toNat : Nat) : Int) = p by omega] at hf
  have h1 : y ^ (p.toNat - 2) % p * y % p = 1 := by rw [Int.mul_emod, Int.emod_emod_of_dvd _ (Int.dvd_refl p), ← Int.mul_emod]; exact hf
  have r1 := Int.emod_nonneg (y ^ (p.toNat - 2)) (show p ≠ 0 by omega)
  refine ⟨y ^ (p.toNat - 2) % p, ?_, Int.emod_lt_of_pos _ (by omega), h1⟩
  rcases Int.lt_or_eq_of_le r1 with h | h
  · exact h
  · rw [← h, Int.zero_mul, Int.zero_emod] at h1; omega
theorem prime_cancel {p : Int} (hpr : prB p = true) (h2 : 2 ≤ p) {y : Int} (h : 0 < y) (h' : y < p) {x : Int} (hx : p ∣ x * y) : p ∣ x := by
  have hP := prB_true hpr
  have e : ((p.toNat : Nat) : Int) = p := by omega
  have hx' : (p.toNat : Int) ∣ x * y := by rw [e]; exact hx
  rcases hP.dvd_mul_int hx' with h | h
  · rwa [e] at h
  · have := Int.le_of_dvd (by omega) h; omega
theorem Pl.lead {p : Int} {d : List Int} (hp : 1 ≤ p) (h : Pl p d) (h0 : 0 < d.length) : 0 < co d (d.length - 1) ∧ co d (d.length - 1) < p := by
  have h1 := co_last h.last h0
  have h2 := h.co_rng hp (d.length - 1)
  omega
/-- what is left of a divisor is nothing -/
theorem DvP.rem {p : Int} (hpr : prB p = true) (h2 : 2 ≤ p) {d a q r : List Int} (hd : Pl p d) (h : DivInv p a d q r) (hr : r.length < d.length) (hdv : DvP p d a) : r = [] := by
  have hl := hd.lead (by omega) (by omega)
  have hc : Cg p (co d) (co r) (fun _ => 0) := h.cg.symm.trans hdv
  refine h.pl.ext (Pl.nil p) fun i => ?_
  have := Cg.uniq' (m := d.length - 1) (by omega) (fun x hx => prime_cancel hpr h2 hl.1 hl.2 hx) (fun i hi => co_out (by omega)) (fun i hi => co_out (by omega)) (fun i hi => rfl) (h.pl.co_rng (by omega)) (fun i => ⟨Int.le_refl _, by omega⟩) hc i
  rw [this, co_out (by simp)]
theorem DivInv.dv {p : Int} {a d q : List Int} (h : DivInv p a d q []) : DvP p d a := by
  have := h.cg
  rwa [show co [] = fun _ => (0 : Int) from funext fun i => co_out (by simp)] at this
/-- numbers as a polynomial -/
theorem list_of {p : Int} (hp : 1 ≤ p) {u : Nat → Int} (h : FS u) : ∃ l, Pl p l ∧ ∀ i, co l i = u i % p := by
  obtain ⟨n, hn⟩ := h
  refine ⟨trimL ((List.range n).map fun i => u i % p), ⟨fun x hx => ?_, trimL_last _⟩, fun i => ?_⟩
  · obtain ⟨i, _, rfl⟩ := List.mem_map.1 (trimL_mem _ x hx)
    exact ⟨Int.emod_nonneg _ (by omega), Int.emod_lt_of_pos _ (by omega)⟩
  · show (trimL _).getD i 0 = _
    rw [trimL_get]
    by_cases e : i < n
    · rw [List.getD_eq_getElem?_getD, List.getElem?_map, List.getElem?_range e]; rfl
    · rw [List.getD_eq_getElem?_getD, List.getElem?_eq_none (by simp; omega), hn i (by omega)]; simp
/-- made of two -/
def Ide (p : Int) (A F : Nat → Int) (g : List Int) : Prop := Pl p g ∧ g ≠ [] ∧ ∃ u v, FS u ∧ FS v ∧ ∀ i, p ∣ co g i - conv u A i - conv v F i
theorem conv_dv2 {p : Int} {q G A F u v : Nat → Int} (h : ∀ i, p ∣ G i - conv u A i - conv v F i) (i : Nat) : p ∣ conv q G i - conv (conv q u) A i - conv (conv q v) F i := by
  have h1 := conv_dvd h q i
  rw [conv_sub (fun i => G i - conv u A i) (conv v F) q, conv_sub G (conv u A) q] at h1
  rw [conv_comm G q, conv_comm (conv u A) q, conv_comm (conv v F) q, ← conv_assoc, ← conv_assoc] at h1
  exact h1
/-- the least one divides both -/
theorem Ide.dvd {p : Int} (hpr : prB p = true) (h2 : 2 ≤ p) {A F : Nat → Int} {g x : List Int} (hg : Ide p A F g) (hmin : ∀ g', Ide p A F g' → g.length ≤ g'.length) (hx : Pl p x) (hxi : ∃ u v, FS u ∧ FS v ∧ ∀ i, p ∣ co x i - conv u A i - conv v F i) :
    ∃ q, DivInv p x g q [] := by
  obtain ⟨hgp, hgn, u, v, hu, hv, hg⟩ := hg
  have hgl : 0 < g.length := List.length_pos_iff.2 hgn
  obtain ⟨q, r, hd, hr⟩ := div_ex hpr h2 hx hgp hgl
  by_cases e : r = []
  · subst e; exact ⟨q, hd⟩
  · exfalso
    obtain ⟨u', v', hu', hv', hx⟩ := hxi
    have hI : Ide p A F r := by
      refine ⟨hd.pl, e, fun i => u' i + - conv (co q) u i, fun i => v' i + - conv (co q) v i, hu'.add ((FS.co q).mul hu).neg, hv'.add ((FS.co q).mul hv).neg, fun i => ?_⟩
      have h1 := Int.dvd_of_emod_eq_zero (Int.emod_eq_emod_iff_emod_sub_eq_zero.1 (hd.eq i))
      have h3 := conv_dv2 (q := co q) hg i
      have h4 := hx i
      rw [conv_add, conv_neg, conv_add, conv_neg]
      have := Int.dvd_add (Int.dvd_sub h1 h3) h4
      rwa [show conv (co q) (co g) i + co r i - co x i - (conv (co q) (co g) i - conv (conv (co q) u) A i - conv (conv (co q) v) F i) + (co x i - conv u' A i - conv v' F i)
        = co r i - (conv u' A i + - conv (conv (co q) u) A i) - (conv v' F i + - conv (conv (co q) v) F i) by omega] at this
    have := hmin r hI
    omega
theorem min_len {P : List Int → Prop} (h : ∃ g, P g) : ∃ g, P g ∧ ∀ g', P g' → g.length ≤ g'.length := by
  obtain ⟨g, hg⟩ := h
  have : ∀ n g, g.length ≤ n → P g → ∃ g, P g ∧ ∀ g', P g' → g.length ≤ g'.length := by
    intro n
    induction n with
    | zero => intro g hn hg; exact ⟨g, hg, fun g' _ => by omega⟩
    | succ n ih =>
      intro g hn hg
      by_cases e : ∃ g', P g' ∧ g'.length < g.length
      · obtain ⟨g', h1, h2⟩ := e
        exact ih g' (by omega) h1
      · exact ⟨g, hg, fun g' h' => by
          rcases Nat.lt_or_ge g'.length g.length with h | h
          · exact absurd ⟨g', h', h⟩ e
          · exact h⟩
  exact this g.length g (Nat.le_refl _) hg
theorem Fld.inverse {p m : Nat} {f : List Int} (h : Fld p f m) (hi : Irr p f m) {a : Nat} (ha : a < p ^ m) (h0 : a ≠ 0) : ∃ b, b < p ^ m ∧ mulF p f a b = 1 := by
  have h2 := h.p2
  have hip := h.ip
  have hal := dig_len h2 m a ha
  have ha0 : Ide p (el p a) (co f) (digL p a) := ⟨dig_pl h2 a, fun e => h0 ((dig_nil h2).1 e), co [1], fun _ => 0, FS.co _, FS.zero, fun i => ⟨0, by rw [conv_one, conv_zero]; show el p a i - _ - 0 = _; simp⟩⟩
  obtain ⟨g, hg, hmin⟩ := min_len ⟨_, ha0⟩
  have hgm := hmin _ ha0
  obtain ⟨q, hq⟩ := hg.dvd h.pr (by omega) hmin h.mon.pl ⟨fun _ => 0, co [1], FS.zero, FS.co _, fun i => ⟨0, by rw [conv_one, conv_zero]; simp⟩⟩
  obtain ⟨hgp, hgn, u, v, hu, hv, hgc⟩ := hg
  have hgl : 0 < g.length := List.length_pos_iff.2 hgn
  by_cases e : g.length = 1
  · -- a number
    have hl := hgp.lead hip hgl
    rw [e] at hl
    obtain ⟨c, c1, c2, c3⟩ := lead_inv h.pr (by omega) hl.1 hl.2
    obtain ⟨l, hlp, hlc⟩ := list_of (p := p) hip (u := fun i => c * u i) (by obtain ⟨n, hn⟩ := hu; exact ⟨n, fun i hi => by show c * u i = 0; rw [hn i hi]; omega⟩)
    obtain ⟨r1, r2, r3⟩ := h.rem hlp
    refine ⟨numL p (remL p l f), Nat.lt_of_lt_of_le (num_lt h2 r1.rng) (Nat.pow_le_pow_right (by omega) r2), ?_⟩
    refine h.uniq (h.mul_lt _ _) h.one_lt ((h.mul_cg _ _).trans ?_)
    have e1 : el p (numL p (remL p l f)) = co (remL p l f) := by unfold el; rw [dig_num h2 r1]
    rw [e1]
    have s1 : Cg p (co f) (co (remL p l f)) (fun i => c * u i) := r3.trans (Cg.of_mod fun i => by rw [hlc, Int.emod_emod_of_dvd _ (Int.dvd_refl _)])
    have s2 := s1.mulr (FS.el p a)
    rw [show conv (co (remL p l f)) (el p a) = conv (el p a) (co (remL p l f)) from funext fun i => conv_comm _ _ i] at s2
    refine s2.trans ?_
    rw [show conv (fun i => c * u i) (el p a) = fun i => c * conv u (el p a) i from funext fun i => conv_mul _ _ _ i]
    refine ⟨fun i => - (c * v i), (by obtain ⟨n, hn⟩ := hv; exact ⟨n, fun i hi => by show - (c * v i) = 0; rw [hn i hi]; omega⟩), fun i => ?_⟩
    rw [conv_neg (fun i => c * v i), conv_mul]
    have hone : el p 1 i = if i = 0 then 1 else 0 := by
      show co (digL p 1) i = _
      rw [dig_one h2]
      by_cases e : i = 0
      · subst e; rfl
      · rw [if_neg e, co_out (by simp; omega)]
    have hgi : co g i = if i = 0 then co g 0 else 0 := by
      by_cases e : i = 0
      · subst e; rfl
      · rw [if_neg e, co_out (by omega)]
    have h3 := Int.dvd_trans (hgc i) (Int.dvd_mul_left c _)
    have h4 : (p : Int) ∣ c * co g i - el p 1 i := by
      rw [hone, hgi]
      by_cases e : i = 0
      · rw [if_pos e, if_pos e]
        exact Int.dvd_of_emod_eq_zero (Int.emod_eq_emod_iff_emod_sub_eq_zero.1 (by rw [c3, Int.emod_eq_of_lt (by omega) (by omega)]))
      · rw [if_neg e, if_neg e]; exact ⟨0, by simp⟩
    have h5 := Int.dvd_sub h4 h3
    rwa [show c * co g i - el p 1 i - c * (co g i - conv u (el p a) i - conv v (co f) i) = c * conv u (el p a) i - el p 1 i - -(c * conv v (co f) i) by grind] at h5
  · exfalso
    have hqp : Pl p q := ⟨hq.qr, hq.ql⟩
    have hft : timesL p q g = f := (Pl.times hip q g).ext h.mon.pl fun i => by
      rw [co_times hip]
      have := hq.eq i
      rw [co_out (a := []) (by simp), Int.add_zero] at this
      rw [this, Int.emod_eq_of_lt (h.mon.pl.co_rng hip i).1 (h.mon.pl.co_rng hip i).2]
    have hq0 : 0 < q.length := by
      rcases Nat.eq_zero_or_pos q.length with e2 | e2
      · have := List.eq_nil_of_length_eq_zero e2
        subst this
        have := h.mon.len
        have e3 : timesL p ([] : List Int) g = [] := rfl
        rw [e3] at hft
        rw [← hft] at this; simp at this
      · exact e2
    have hlen := ring_len (p := p) h.pr (by omega) hqp.rng hgp.rng hqp.last hgp.last hq0 hgl
    rw [hft, h.mon.len] at hlen
    rcases Nat.lt_or_ge (m + 2) (2 * g.length) with hlt | hge
    · refine hi q hqp (by omega) (by omega) ⟨co g, FS.co g, fun i => ?_⟩
      rw [conv_comm]
      have := Int.dvd_of_emod_eq_zero (Int.emod_eq_emod_iff_emod_sub_eq_zero.1 (hq.eq i))
      rw [co_out (a := []) (by simp), Int.add_zero] at this
      have := Int.dvd_neg.2 this
      rwa [show -(conv (co q) (co g) i - co f i) = co f i - 0 - conv (co q) (co g) i by omega] at this
    · exact hi g hgp (by omega) hge hq.dv
/-- a divisor with the last number 1 -/
theorem DvP.monic {p : Int} (hpr : prB p = true) (h2 : 2 ≤ p) {d a : List Int} (hd : Pl p d) (h0 : 0 < d.length) (h : DvP p d a) : ∃ d', Pl p d' ∧ d'.length = d.length ∧ co d' (d.length - 1) = 1 ∧ DvP p d' a := by
  have hl := hd.lead (by omega) h0
  obtain ⟨c, c1, c2, c3⟩ := lead_inv hpr h2 hl.1 hl.2
  obtain ⟨l, hlp, hlc⟩ := list_of (p := p) (by omega) (u := fun i => c * co d i) (by obtain ⟨n, hn⟩ := FS.co d; exact ⟨n, fun i hi => by show c * co d i = 0; rw [hn i hi]; omega⟩)
  have htop : co l (d.length - 1) = 1 := by rw [hlc]; exact c3
  have hlen : l.length = d.length := by
    have := len_at hlp.last (k := d.length - 1) (by rw [htop]; omega) (fun i hi => by rw [hlc]; show c * co d i % p = 0; rw [co_out (by omega)]; simp)
    omega
  refine ⟨l, hlp, hlen, htop, ?_⟩
  obtain ⟨q, hq, hqd⟩ := h
  refine ⟨fun i => co d (d.length - 1) * q i, (by obtain ⟨n, hn⟩ := hq; exact ⟨n, fun i hi => by show co d (d.length - 1) * q i = 0; rw [hn i hi]; omega⟩), fun i => ?_⟩
  rw [conv_mul]
  obtain ⟨y, hy⟩ : ∃ y, co d (d.length - 1) = y := ⟨_, rfl⟩
  rw [hy] at c3 ⊢
  -- c * d and l leave the same
  have h1 : p ∣ conv q (co l) i - c * conv q (co d) i := by
    have : ∀ j, p ∣ co l j - c * co d j := fun j => by
      rw [hlc]
      exact ⟨-(c * co d j / p), by have := Int.mul_ediv_add_emod (c * co d j) p; grind⟩
    have h3 := conv_dvd this q i
    rw [conv_sub (co l) (fun j => c * co d j) q, conv_mul, conv_comm (co l) q, conv_comm (co d) q] at h3
    exact h3
  have h3 : p ∣ c * y - 1 := Int.dvd_of_emod_eq_zero (Int.emod_eq_emod_iff_emod_sub_eq_zero.1 (by rw [c3, Int.emod_eq_of_lt (by omega) (by omega)]))
  have h4 := hqd i
  obtain ⟨k1, e1⟩ := h1
  obtain ⟨k3, e3⟩ := h3
  obtain ⟨k4, e4⟩ := h4
  refine ⟨k4 - y * k1 - k3 * conv q (co d) i, ?_⟩
  grind
end Go.Proofs.Ytkkefbjmdbjbhaa
