/- Plain: what share.Explain finds. -/
import Derived.Test.YtfgmnlphejpcaaaThr
namespace Go.Proofs.Ytfgmnlphejpcaaa
set_option linter.unusedVariables false
set_option linter.unusedSimpArgs false
theorem ev_zeros (x : Int) (n : Nat) : ev (List.replicate n 0) x = 0 := by
  induction n with
  | zero => rfl
  | succ n ih =>
    rw [List.replicate_succ]
    show 0 + x * ev (List.replicate n 0) x = 0
    rw [ih]; simp
theorem ev_pad (x : Int) (n : Nat) : ∀ A : List Int, ev (A ++ List.replicate n 0) x = ev A x
  | [] => ev_zeros x n
  | k :: t => by
    show k + x * ev (t ++ List.replicate n 0) x = k + x * ev t x
    rw [ev_pad x n t]
theorem val_cons (p s x : Int) (R : List Int) : valL p (s :: R) x = (s + x * valL p R x) % p := by
  rw [valL_ev, valL_ev]
  show (s + x * ev R x) % p = _
  rw [Int.add_emod, Int.mul_emod]
  conv => rhs; rw [Int.add_emod, Int.mul_emod, Int.emod_emod]
theorem val_pad (p x : Int) (n : Nat) (A : List Int) : valL p (A ++ List.replicate n 0) x = valL p A x := by
  rw [valL_ev, valL_ev, ev_pad]
/-- the point that Explain makes of a point: i is the inverse of its first coordinate -/
theorem explain_hit {p s x y i : Int} {A : List Int} (n : Nat) (hp : 1 ≤ p) (hy : 0 ≤ y ∧ y < p) (hi : i * x % p = 1) (hA : valL p A x = (y - s) % p * i % p) : valL p (s :: (A ++ List.replicate n 0)) x = y := by
  rw [val_cons, val_pad, hA, Int.mul_comm x]
  exact hit_new hp hy hi rfl rfl
/-- and only one list of that length fits -/
theorem explain_one {p s : Int} {R G : List Int} {pts : List (Int × Int)} (hpr : prB p = true) (hp : 2 ≤ p) (hs : 0 ≤ s ∧ s < p) (hr : ∀ x ∈ R, 0 ≤ x ∧ x < p) (hg : ∀ x ∈ G, 0 ≤ x ∧ x < p) (hl : R.length = G.length) (hn : pts.length = R.length) (hnd : (pts.map (·.1)).Nodup) (hrg : ∀ v ∈ pts, 1 ≤ v.1 ∧ v.1 < p)
    (h1 : ∀ v ∈ pts, valL p (s :: R) v.1 = v.2) (h2 : ∀ v ∈ pts, valL p (s :: G) v.1 = v.2) : R = G := by
  have hp1 : 1 ≤ p := by omega
  have hv0 : ∀ T : List Int, valL p (s :: T) 0 = s := fun T => by
    rw [val_cons, Int.zero_mul, Int.add_zero, Int.emod_eq_of_lt hs.1 hs.2]
  have hD := uniq_nil hpr hp (A := s :: R) (B := s :: G) (n := R.length + 1) (fun x hx => by
    rcases List.mem_cons.1 hx with rfl | hx
    · exact hs
    · exact hr x hx) (by simp) (by simp; omega) (0 :: pts.map (·.1)) (by
    rw [List.nodup_cons]
    refine ⟨fun hm => ?_, hnd⟩
    obtain ⟨v, hv, e⟩ := List.mem_map.1 hm
    have := hrg v hv
    omega) (fun x hx => by
    rcases List.mem_cons.1 hx with rfl | hx
    · omega
    · obtain ⟨v, hv, rfl⟩ := List.mem_map.1 hx
      have := hrg v hv
      omega) (by simp; omega) (fun x hx => by
    rcases List.mem_cons.1 hx with rfl | hx
    · rw [hv0, hv0]
    · obtain ⟨v, hv, rfl⟩ := List.mem_map.1 hx
      rw [h1 v hv, h2 v hv])
  have hco : ∀ i, co (s :: R) i = co (s :: G) i := fun i => by
    refine eq_of_dvd_sub (p := p) (co_rng hp1 (fun x hx => by
      rcases List.mem_cons.1 hx with rfl | hx
      · exact hs
      · exact hr x hx) i) (co_rng hp1 (fun x hx => by
      rcases List.mem_cons.1 hx with rfl | hx
      · exact hs
      · exact hg x hx) i) ?_
    have e := co_plus (b := s :: G) (k := -1) (up := 0) (a := s :: R) hp1 (fun x hx => by
      rcases List.mem_cons.1 hx with rfl | hx
      · exact hs
      · exact hr x hx) i
    rw [hD, co_out (by simp), if_pos (Nat.zero_le _), Nat.sub_zero] at e
    exact e.symm
  apply List.ext_getElem hl
  intro i hi1 hi2
  have := hco (i + 1)
  rw [co_in (by simp; omega), co_in (by simp; omega)] at this
  simpa using this
end Go.Proofs.Ytfgmnlphejpcaaa
