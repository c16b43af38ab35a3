/- Plain: sums of spots of a curve. -/
import Derived.Test.YtnheboamjfahaaaNum3
namespace Go.Proofs.Ytnheboamjfahaaa
set_option linter.unusedVariables false
set_option linter.unusedSimpArgs false
/-- a spot -/
structure Sp where
  x : Int
  y : Int
  far : Bool
  deriving DecidableEq
def farS : Sp := ⟨0, 0, true⟩
/-- a quotient by a prime -/
def ovr (N : Nat) (a b : Int) : Int := a * b ^ (N - 2) % N
theorem ovr_rng {N : Nat} (h : 1 ≤ N) (a b : Int) : 0 ≤ ovr N a b ∧ ovr N a b < N := ⟨Int.emod_nonneg _ (by omega), Int.emod_lt_of_pos _ (by omega)⟩
theorem ovr_spec {N : Nat} (hp : M.Pr N) (a : Int) {b : Int} (hb : ¬ (N : Int) ∣ b) : (N : Int) ∣ ovr N a b * b - a := by
  have h2 := hp.1
  have h := M.fermat_int1 hp hb
  obtain ⟨k, hk⟩ : ∃ k, N = k + 2 := ⟨N - 2, by omega⟩
  have e : b ^ (N - 1) = b ^ (N - 2) * b := by rw [hk]; exact Int.pow_succ b k
  rw [e] at h
  obtain ⟨q, hq⟩ : (N : Int) ∣ b ^ (N - 2) * b - 1 := ⟨b ^ (N - 2) * b / N, by have := Int.mul_ediv_add_emod (b ^ (N - 2) * b) N; omega⟩
  have e2 := Int.mul_ediv_add_emod (a * b ^ (N - 2)) N
  refine ⟨a * q - a * b ^ (N - 2) / N * b, ?_⟩
  show a * b ^ (N - 2) % N * b - a = _
  obtain ⟨B, hB⟩ : ∃ B, b ^ (N - 2) = B := ⟨_, rfl⟩
  rw [hB] at hq e2 ⊢
  obtain ⟨D, hD⟩ : ∃ D, a * B / (N : Int) = D := ⟨_, rfl⟩
  rw [hD] at e2 ⊢
  have e3 : a * B % (N : Int) = a * B - N * D := by omega
  rw [e3]
  grind
theorem rng_eq {N : Nat} {a b : Int} (a1 : 0 ≤ a) (a2 : a < N) (b1 : 0 ≤ b) (b2 : b < N) (h : (N : Int) ∣ a - b) : a = b := by
  have := Int.emod_eq_emod_iff_emod_sub_eq_zero.2 (Int.emod_eq_zero_of_dvd h)
  rwa [Int.emod_eq_of_lt a1 a2, Int.emod_eq_of_lt b1 b2] at this
theorem ovr_uniq {N : Nat} (hp : M.Pr N) {a b k : Int} (hb : ¬ (N : Int) ∣ b) (k1 : 0 ≤ k) (k2 : k < N) (h : (N : Int) ∣ k * b - a) : k = ovr N a b := by
  have h2 := hp.1
  have r := ovr_rng (show 1 ≤ N by omega) a b
  refine rng_eq k1 k2 r.1 r.2 ?_
  have hd := Int.dvd_sub h (ovr_spec hp a hb)
  rw [show k * b - a - (ovr N a b * b - a) = (k - ovr N a b) * b by grind] at hd
  rcases hp.dvd_mul_int hd with h | h
  · exact h
  · exact absurd h hb
theorem ovr_zero {N : Nat} (h5 : 3 ≤ N) (a : Int) {b : Int} (hb : (N : Int) ∣ b) : ovr N a b = 0 := by
  obtain ⟨k, hk⟩ : ∃ k, N - 2 = k + 1 := ⟨N - 3, by omega⟩
  unfold ovr
  rw [hk, Int.pow_succ]
  exact Int.emod_eq_zero_of_dvd (Int.dvd_trans hb (Int.dvd_trans (Int.dvd_mul_left _ _) (Int.dvd_mul_left _ _)))
/-- on the other side -/
def negS (N : Nat) (s : Sp) : Sp := ⟨s.x, (-s.y) % N, s.far⟩
def slope (N : Nat) (A : Int) (s t : Sp) : Int := if s = t then ovr N (3 * s.x * s.x + A) (2 * s.y) else ovr N (t.y - s.y) (t.x - s.x)
def sumX (N : Nat) (k : Int) (s t : Sp) : Int := (k * k - s.x - t.x) % N
/-- a sum -/
def addS (N : Nat) (A : Int) (s t : Sp) : Sp :=
  if s.far = true then t else if t.far = true then s else if s = negS N t then farS else
    ⟨sumX N (slope N A s t) s t, (slope N A s t * (s.x - sumX N (slope N A s t) s t) - s.y) % N, false⟩
/-- a spot of the curve -/
def OnC (N : Nat) (A B : Int) (s : Sp) : Prop := (s.far = true ∧ s.x = 0 ∧ s.y = 0) ∨ (s.far = false ∧ 0 ≤ s.x ∧ s.x < N ∧ 0 ≤ s.y ∧ s.y < N ∧ (N : Int) ∣ s.y * s.y - (s.x * s.x * s.x + A * s.x + B))
theorem OnC.farS (N : Nat) (A B : Int) : OnC N A B farS := .inl ⟨rfl, rfl, rfl⟩
theorem OnC.far_eq {N : Nat} {A B : Int} {s : Sp} (h : OnC N A B s) (hf : s.far = true) : s = Go.Proofs.Ytnheboamjfahaaa.farS := by
  rcases h with ⟨h1, h2, h3⟩ | ⟨h1, _⟩
  · cases s; simp only at h1 h2 h3; subst h1; subst h2; subst h3; rfl
  · rw [h1] at hf; cases hf
theorem emod_dvd (a : Int) (N : Nat) : (N : Int) ∣ a % N - a := ⟨-(a / N), by have := Int.mul_ediv_add_emod a N; grind⟩
theorem OnC.neg {N : Nat} (h1 : 1 ≤ N) {A B : Int} {s : Sp} (h : OnC N A B s) : OnC N A B (negS N s) := by
  rcases h with ⟨h1, h2, h3⟩ | ⟨h2, h3, h4, h5, h6, h7⟩
  · exact .inl ⟨h1, h2, by show (-s.y) % _ = 0; rw [h3]; simp⟩
  · refine .inr ⟨h2, h3, h4, Int.emod_nonneg _ (by omega), Int.emod_lt_of_pos _ (by omega), ?_⟩
    show (N : Int) ∣ (-s.y) % N * ((-s.y) % N) - _
    have e := emod_dvd (-s.y) N
    obtain ⟨q, hq⟩ := e
    obtain ⟨z, hz⟩ : ∃ z, (-s.y) % (N : Int) = z := ⟨_, rfl⟩
    rw [hz] at hq ⊢
    obtain ⟨r, hr⟩ := h7
    refine ⟨q * (z - s.y) + r, ?_⟩
    show z * z - (s.x * s.x * s.x + A * s.x + B) = _
    grind
theorem neg_neg {N : Nat} {A B : Int} {s : Sp} (h : OnC N A B s) (h1 : 1 ≤ N) : negS N (negS N s) = s := by
  have hy : (-((-s.y) % (N : Int))) % N = s.y := by
    have r : 0 ≤ s.y ∧ s.y < N := by
      rcases h with ⟨_, _, h3⟩ | ⟨_, _, _, h5, h6, _⟩ <;> omega
    refine rng_eq (Int.emod_nonneg _ (by omega)) (Int.emod_lt_of_pos _ (by omega)) r.1 r.2 ?_
    obtain ⟨q, hq⟩ := emod_dvd (-((-s.y) % (N : Int))) N
    obtain ⟨q2, hq2⟩ := emod_dvd (-s.y) N
    exact ⟨q - q2, by grind⟩
  cases s
  simp only [negS] at hy ⊢
  rw [hy]
/-- the third spot of a line -/
theorem chord {N : Nat} {A B x1 y1 x2 k x3 : Int} (hg : (N : Int) ∣ x2 * x2 + x2 * x1 + x1 * x1 - k * k * (x2 + x1) + (A + 2 * k * k * x1 - 2 * k * y1)) (h1 : (N : Int) ∣ y1 * y1 - (x1 * x1 * x1 + A * x1 + B))
    (h3 : (N : Int) ∣ x3 - (k * k - x1 - x2)) : (N : Int) ∣ (k * (x1 - x3) - y1) * (k * (x1 - x3) - y1) - (x3 * x3 * x3 + A * x3 + B) := by
  obtain ⟨g, hg⟩ := hg
  obtain ⟨q, hq⟩ := h1
  obtain ⟨r, hr⟩ := h3
  refine ⟨q - (x3 - x1) * (g + (x3 - x2) * r), ?_⟩
  have e : (k * (x1 - x3) - y1) * (k * (x1 - x3) - y1) - (x3 * x3 * x3 + A * x3 + B) = (y1 * y1 - (x1 * x1 * x1 + A * x1 + B)) - (x3 - x1) * ((x2 * x2 + x2 * x1 + x1 * x1 - k * k * (x2 + x1) + (A + 2 * k * k * x1 - 2 * k * y1)) + (x3 - x2) * (x3 - (k * k - x1 - x2))) := by grind
  rw [e, hq, hg, hr]
  grind
end Go.Proofs.Ytnheboamjfahaaa
