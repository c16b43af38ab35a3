/- Plain: functions that are polynomials by a prime; Lagrange's weights at 0. -/
import Derived.Test.YtfgmnlphejpcaaaThrM
namespace Go.Proofs.Ytfgmnlphejpcaaa
set_option linter.unusedVariables false
set_option linter.unusedSimpArgs false
/-- a function that is a polynomial of n numbers by p -/
def PF (p : Int) (n : Nat) (f : Int → Int) : Prop := ∃ C : List Int, C.length ≤ n ∧ (∀ c ∈ C, 0 ≤ c ∧ c < p) ∧ ∀ x, f x % p = valL p C x
theorem PF.congr {p : Int} {n : Nat} {f g : Int → Int} (h : PF p n f) (e : ∀ x, g x % p = f x % p) : PF p n g := by
  obtain ⟨C, h1, h2, h3⟩ := h
  exact ⟨C, h1, h2, fun x => (e x).trans (h3 x)⟩
theorem PF.mono {p : Int} {n m : Nat} {f : Int → Int} (h : PF p n f) (e : n ≤ m) : PF p m f := by
  obtain ⟨C, h1, h2, h3⟩ := h
  exact ⟨C, by omega, h2, h3⟩
theorem PF.of {p : Int} {C : List Int} (hC : ∀ c ∈ C, 0 ≤ c ∧ c < p) : PF p C.length (fun x => valL p C x) := ⟨C, Nat.le_refl _, hC, fun x => by show valL p C x % p = valL p C x; rw [valL_ev, Int.emod_emod]⟩
theorem PF.zero (p : Int) (n : Nat) : PF p n (fun _ => 0) := ⟨[], by simp, by simp, fun x => by rw [valL_ev]; rfl⟩
theorem PF.const {p : Int} (hp : 1 ≤ p) (c : Int) : PF p 1 (fun _ => c) := by
  refine ⟨[c % p], by simp, fun x hx => ?_, fun x => ?_⟩
  · rw [List.mem_singleton.1 hx]
    exact ⟨Int.emod_nonneg _ (by omega), Int.emod_lt_of_pos _ (by omega)⟩
  · rw [valL_ev]
    show c % p = (c % p + x * 0) % p
    rw [Int.mul_zero, Int.add_zero, Int.emod_emod]
theorem PF.lin {p : Int} (hp : 2 ≤ p) (z : Int) : PF p 2 (fun x => z - x) := by
  refine ⟨[z % p, p - 1], by simp, fun x hx => ?_, fun x => ?_⟩
  · simp at hx
    rcases hx with rfl | rfl
    · exact ⟨Int.emod_nonneg _ (by omega), Int.emod_lt_of_pos _ (by omega)⟩
    · omega
  · rw [valL_ev]
    show (z - x) % p = (z % p + x * (p - 1 + x * 0)) % p
    rw [Int.emod_add_emod, show z + x * (p - 1 + x * 0) = z - x + p * x by grind, Int.add_mul_emod_self_left]
theorem PF.add {p : Int} (hp : 1 ≤ p) {n : Nat} {f g : Int → Int} (h1 : PF p n f) (h2 : PF p n g) : PF p n (fun x => f x + g x) := by
  obtain ⟨A, a1, a2, a3⟩ := h1
  obtain ⟨B, b1, b2, b3⟩ := h2
  refine ⟨plusL p A B 1 0, ?_, plusL_rng hp a2, fun x => ?_⟩
  · have := plusL_len p A B 1 0; omega
  · rw [val_plus hp a2, ← a3, ← b3, Int.one_mul, ← Int.add_emod]
theorem PF.mul {p : Int} (hp : 1 ≤ p) {n m : Nat} {f g : Int → Int} (h1 : PF p n f) (h2 : PF p m g) : PF p (n + m - 1) (fun x => f x * g x) := by
  obtain ⟨A, a1, a2, a3⟩ := h1
  obtain ⟨B, b1, b2, b3⟩ := h2
  refine ⟨timesL p A B, ?_, timesL_rng hp, fun x => ?_⟩
  · have := timesL_len2 hp A B; omega
  · rw [valL_ev, ev_times hp, Int.mul_emod, a3, b3, valL_ev, valL_ev, ← Int.mul_emod]
theorem PF.smul {p : Int} (hp : 1 ≤ p) {n : Nat} {f : Int → Int} (k : Int) (h : PF p n f) : PF p n (fun x => k * f x) := by
  have := PF.mul hp (PF.const hp k) h
  exact this.mono (by omega)
theorem PF.uniq {p : Int} (hpr : prB p = true) (hp : 2 ≤ p) {n : Nat} {f g : Int → Int} (h1 : PF p n f) (h2 : PF p n g) (xs : List Int) (hx : xs.Nodup) (hxr : ∀ x ∈ xs, 0 ≤ x ∧ x < p) (hn : n ≤ xs.length) (h : ∀ x ∈ xs, f x % p = g x % p) (t : Int) : f t % p = g t % p := by
  obtain ⟨A, a1, a2, a3⟩ := h1
  obtain ⟨B, b1, b2, b3⟩ := h2
  rw [a3, b3]
  exact uniq_law hpr hp a2 a1 b1 xs hx hxr hn (fun x hx' => by rw [← a3, ← b3]; exact h x hx') t
theorem PF.sum {p : Int} (hp : 1 ≤ p) {n : Nat} {F : Int → Int → Int} : ∀ (l : List Int), (∀ x ∈ l, PF p n (F x)) → PF p n (fun t => (l.map fun x => F x t).sum)
  | [], _ => PF.zero p n
  | a :: l, h => PF.add hp (h a (by simp)) (PF.sum hp l fun x hx => h x (by simp [hx]))
def prodL : List Int → Int
  | [] => 1
  | a :: t => a * prodL t
theorem prodL_zero : ∀ {l : List Int}, (0 : Int) ∈ l → prodL l = 0
  | a :: t, h => by
    unfold prodL
    rcases List.mem_cons.1 h with h | h
    · rw [← h, Int.zero_mul]
    · rw [prodL_zero h, Int.mul_zero]
theorem PF.prod {p : Int} (hp : 2 ≤ p) : ∀ (l : List Int), PF p (l.length + 1) (fun t => prodL (l.map fun z => z - t))
  | [] => PF.const (by omega) 1
  | a :: l => (PF.mul (by omega) (PF.lin hp a) (PF.prod hp l)).mono (by simp; omega)
theorem prod_unit {p : Int} (hpr : prB p = true) (hp : 2 ≤ p) : ∀ {l : List Int}, (∀ x ∈ l, x % p ≠ 0) → prodL l % p ≠ 0
  | [], _ => by show 1 % p ≠ 0; rw [Int.emod_eq_of_lt (by omega) (by omega)]; decide
  | a :: l, h => by
    show a * prodL l % p ≠ 0
    rw [Int.mul_emod]
    exact prime_mul hpr hp ⟨Int.emod_nonneg _ (by omega), Int.emod_lt_of_pos _ (by omega)⟩ ⟨Int.emod_nonneg _ (by omega), Int.emod_lt_of_pos _ (by omega)⟩ (h a (by simp)) (prod_unit hpr hp fun x hx => h x (by simp [hx]))
/-- the others' differences -/
def Zx (xs : List Int) (x t : Int) : Int := prodL ((xs.filter fun z => z != x).map fun z => z - t)
theorem Zx_PF {p : Int} (hp : 2 ≤ p) {xs : List Int} {x : Int} (hx : x ∈ xs) : PF p xs.length (Zx xs x) := by
  refine (PF.prod hp (xs.filter fun z => z != x)).mono ?_
  have : (xs.filter fun z => z != x).length < xs.length := List.length_filter_lt_length_iff_exists.2 ⟨x, hx, by simp⟩
  omega
theorem Zx_zero {xs : List Int} {x t : Int} (ht : t ∈ xs) (hne : t ≠ x) : Zx xs x t = 0 := by
  refine prodL_zero (List.mem_map.2 ⟨t, List.mem_filter.2 ⟨ht, by simpa using hne⟩, by omega⟩)
theorem diff_unit {p a b : Int} (ha : 0 ≤ a ∧ a < p) (hb : 0 ≤ b ∧ b < p) (h : a ≠ b) : (a - b) % p ≠ 0 := fun e => h (eq_of_dvd_sub ha hb (by rw [show a + -1 * b = a - b by omega]; exact e))
theorem Zx_unit {p : Int} (hpr : prB p = true) (hp : 2 ≤ p) {xs : List Int} {x : Int} (hxr : ∀ z ∈ xs, 0 ≤ z ∧ z < p) (hx : x ∈ xs) : Zx xs x x % p ≠ 0 := by
  refine prod_unit hpr hp fun y hy => ?_
  obtain ⟨z, hz, rfl⟩ := List.mem_map.1 hy
  obtain ⟨h1, h2⟩ := List.mem_filter.1 hz
  exact diff_unit (hxr z h1) (hxr x hx) (by simpa using h2)
theorem sum_one : ∀ {l : List Int} {k : Int} {F : Int → Int}, l.Nodup → k ∈ l → (∀ x ∈ l, x ≠ k → F x = 0) → (l.map F).sum = F k
  | a :: l, k, F, hn, hk, h => by
    rw [List.nodup_cons] at hn
    rw [List.map_cons, List.sum_cons]
    rcases List.mem_cons.1 hk with e | e
    · subst e
      have : (l.map F).sum = 0 := by
        have hz : ∀ x ∈ l, F x = 0 := fun x hx => h x (by simp [hx]) (fun e => hn.1 (e ▸ hx))
        clear h hk hn
        induction l with
        | nil => rfl
        | cons b l ih => rw [List.map_cons, List.sum_cons, hz b (by simp), ih (fun x hx => hz x (by simp [hx]))]; rfl
      omega
    · rw [h a (by simp) (fun e' => hn.1 (e' ▸ e)), sum_one hn.2 e (fun x hx => h x (by simp [hx]))]
      omega
theorem sum_mod {p : Int} : ∀ {l : List Int} {F G : Int → Int}, (∀ x ∈ l, F x % p = G x % p) → (l.map F).sum % p = (l.map G).sum % p
  | [], F, G, _ => rfl
  | a :: l, F, G, h => by
    rw [List.map_cons, List.map_cons, List.sum_cons, List.sum_cons, Int.add_emod, h a (by simp), sum_mod (fun x hx => h x (by simp [hx])), ← Int.add_emod]
theorem unit_inv {p z : Int} (hpr : prB p = true) (hp : 2 ≤ p) (h : z % p ≠ 0) : ∃ v : Int, v * z % p = 1 := by
  obtain ⟨P, rfl⟩ := Int.eq_ofNat_of_zero_le (show 0 ≤ p by omega)
  have hP : M.Pr P := by simpa using prB_true hpr
  have h1 := M.fermat_int1 hP (a := z) (fun hd => h (Int.emod_eq_zero_of_dvd hd))
  refine ⟨z ^ (P - 2), ?_⟩
  rw [← Int.pow_succ, show (P - 2).succ = P - 1 by omega]
  exact h1
/-- Lagrange at 0 -/
theorem lag_law {p : Int} (hpr : prB p = true) (hp : 2 ≤ p) {xs : List Int} (hx : xs.Nodup) (hxr : ∀ x ∈ xs, 0 ≤ x ∧ x < p) {D w : Int → Int} (hD : PF p xs.length D)
    (hw : ∀ x ∈ xs, w x * Zx xs x x % p = Zx xs x 0 % p) : (xs.map fun x => w x * D x).sum % p = D 0 % p := by
  have hp1 : 1 ≤ p := by omega
  have hv : ∀ x, ∃ v : Int, x ∈ xs → v * Zx xs x x % p = 1 := fun x => by
    by_cases h : x ∈ xs
    · obtain ⟨v, hv⟩ := unit_inv hpr hp (Zx_unit hpr hp hxr h)
      exact ⟨v, fun _ => hv⟩
    · exact ⟨0, fun h' => absurd h' h⟩
  obtain ⟨v, hv⟩ := Classical.axiomOfChoice hv
  have hL : PF p xs.length (fun t => (xs.map fun x => D x * v x * Zx xs x t).sum) := PF.sum (F := fun x t => D x * v x * Zx xs x t) hp1 xs fun x hx => (Zx_PF hp hx).smul hp1 (D x * v x)
  have he := PF.uniq hpr hp hL hD xs hx hxr (Nat.le_refl _) (fun t ht => by
    rw [sum_one (F := fun x => D x * v x * Zx xs x t) hx ht (fun x _ hxt => by rw [Zx_zero ht (Ne.symm hxt), Int.mul_zero])]
    show D t * v t * Zx xs t t % p = D t % p
    rw [Int.mul_assoc, Int.mul_emod, hv t ht, Int.mul_one, Int.emod_emod]) 0
  rw [← he]
  refine sum_mod fun x hxm => ?_
  show w x * D x % p = D x * v x * Zx xs x 0 % p
  have e1 : D x * v x * Zx xs x 0 % p = D x * v x * (w x * Zx xs x x) % p := by rw [Int.mul_emod, ← hw x hxm, ← Int.mul_emod]
  rw [e1, show D x * v x * (w x * Zx xs x x) = (w x * D x) * (v x * Zx xs x x) by grind, Int.mul_emod (w x * D x) (v x * Zx xs x x), hv x hxm, Int.mul_one, Int.emod_emod]
end Go.Proofs.Ytfgmnlphejpcaaa
