/- Shares: their rows; sums of polynomials number by number. -/
import Derived.Test.YtfgmnlphejpcaaaSplitB
import Derived.Test.YtfgmnlphejpcaaaRootM
namespace Go.Proofs.Ytfgmnlphejpcaaa
open Go.RowKit
set_option linter.unusedVariables false
set_option linter.unusedSimpArgs false
/-- a row behind an address, cell by cell -/
def PtRow (W : World) (ad : Option Addr) (N : Nat) (xs : List Value) : Prop := 0 < N → ∃ g, ad = some ⟨g, 0, none⟩ ∧ ∀ (i : Nat) (u : Value), xs[i]? = some u → W.cell? ⟨g, i, none⟩ = some u
theorem PtRow.below {W W' : World} {ad : Option Addr} {N : Nat} {xs : List Value} (h : PtRow W ad N xs) {B : Nat} (hb : Below B W W') (hB : W.heap.size ≤ B) : PtRow W' ad N xs := fun h0 => by
  obtain ⟨g, e, hc⟩ := h h0
  refine ⟨g, e, fun i u hu => ?_⟩
  have k := hc i u hu
  exact (hb.cell (p := ⟨g, i, none⟩) (Nat.lt_of_lt_of_le (World.block_lt_of_cell? W _ k) hB)).trans k
theorem own_pts {W : World} {base N : Nat} {e : TypeId} {v : Value} {xs : List Value} (h : W.ownsRow base e 2 v N xs) : ∃ ad cap, v = .slice ad N cap ∧ PtRow W ad N xs := by
  rcases h.2 with ⟨h1, h2⟩ | ⟨g, cap, cur, h1, h2, h3, h4, h5, h6, h7⟩
  · have : N = 0 := by have := h.1; rw [h2] at this; simp at this; omega
    subst this
    exact ⟨none, 0, h1, fun h0 => absurd h0 (Nat.lt_irrefl _)⟩
  · refine ⟨_, cap, h1, fun _ => ⟨g, rfl, fun i u hu => ?_⟩⟩
    have hi : i < xs.length := (List.getElem?_eq_some_iff.1 hu).1
    have hl := h.1
    rw [← h7, List.getElem?_take, if_pos (by omega)] at hu
    simp only [World.cell?]; rw [h3]; simpa using hu
theorem ptsV_at (p : Int) (xs : List Int) (I : Nat) : ∀ N, I < N → (ptsV p xs N)[I * 2]? = some (.int .i64 ((I : Int) + 1)) ∧ (ptsV p xs N)[I * 2 + 1]? = some (.int .i64 (valL p xs ((I : Int) + 1)))
  | 0, h => absurd h (Nat.not_lt_zero _)
  | N + 1, h => by
    have hl := ptsV_len p xs N
    unfold ptsV
    by_cases e : I = N
    · subst e
      rw [List.getElem?_append_right (by omega), List.getElem?_append_right (by omega), show I * 2 - (ptsV p xs I).length = 0 by omega, show I * 2 + 1 - (ptsV p xs I).length = 1 by omega]
      exact ⟨rfl, rfl⟩
    · have ih := ptsV_at p xs I N (by omega)
      rw [List.getElem?_append_left (by omega), List.getElem?_append_left (by omega)]
      exact ih
/-- sums, number by number -/
def addP (p : Int) : List Int → List Int → List Int
  | x :: a, y :: b => (x + y) % p :: addP p a b
  | _, _ => []
theorem addP_len (p : Int) : ∀ (a b : List Int), a.length = b.length → (addP p a b).length = a.length
  | [], [], _ => rfl
  | _ :: a, _ :: b, h => by simp [addP, addP_len p a b (by simpa using h)]
  | [], _ :: _, h => by simp at h
  | _ :: _, [], h => by simp at h
theorem addP_rng {p : Int} (hp : 1 ≤ p) : ∀ (a b : List Int), ∀ x ∈ addP p a b, 0 ≤ x ∧ x < p
  | [], _, x, h => by simp [addP] at h
  | _ :: _, [], x, h => by simp [addP] at h
  | u :: a, v :: b, x, h => by
    simp only [addP, List.mem_cons] at h
    rcases h with rfl | h
    · exact ⟨Int.emod_nonneg _ (by omega), Int.emod_lt_of_pos _ (by omega)⟩
    · exact addP_rng hp a b x h
theorem addP_at (p : Int) : ∀ (a b : List Int) (I : Nat) (x y : Int), a[I]? = some x → b[I]? = some y → (addP p a b)[I]? = some ((x + y) % p)
  | [], _, I, x, y, h, _ => by simp at h
  | _ :: _, [], I, x, y, _, h => by simp at h
  | u :: a, v :: b, 0, x, y, h1, h2 => by simp at h1 h2; subst h1; subst h2; rfl
  | u :: a, v :: b, I + 1, x, y, h1, h2 => by simp only [addP, List.getElem?_cons_succ] at h1 h2 ⊢; exact addP_at p a b I x y h1 h2
theorem addP_take {p : Int} {a b : List Int} {I : Nat} {x y : Int} (h1 : a[I]? = some x) (h2 : b[I]? = some y) : (addP p a b).take (I + 1) = (addP p a b).take I ++ [(x + y) % p] := by
  rw [List.take_add_one, addP_at p a b I x y h1 h2]; rfl
theorem addP_ev (p x : Int) : ∀ (a b : List Int), a.length = b.length → ev (addP p a b) x % p = (ev a x + ev b x) % p
  | [], [], _ => by simp [addP, ev]
  | u :: a, v :: b, h => by
    have ih := addP_ev p x a b (by simpa using h)
    show ((u + v) % p + x * ev (addP p a b) x) % p = (u + x * ev a x + (v + x * ev b x)) % p
    rw [Int.emod_add_emod, Int.add_emod, Int.mul_emod, ih, ← Int.mul_emod, ← Int.add_emod, Int.mul_add]
    congr 1
    omega
  | [], _ :: _, h => by simp at h
  | _ :: _, [], h => by simp at h
theorem share_law {p : Int} (a b : Int) {m k : List Int} (h : m.length = k.length) (x : Int) : valL p ((a + b) % p :: addP p m k) x = (valL p (a :: m) x + valL p (b :: k) x) % p := by
  rw [valL_ev, valL_ev, valL_ev, ← Int.add_emod]
  exact addP_ev p x (a :: m) (b :: k) (by simp [h])
theorem goodS_sum {p a b n : Int} {m k : List Int} (g1 : GoodS p a m n) (g2 : GoodS p b k n) (h : m.length = k.length) : GoodS p ((a + b) % p) (addP p m k) n := by
  have hp := primeE_zero g1.pr
  refine ⟨g1.pr, by rw [addP_len _ _ _ h]; exact g1.len, ?_, g1.n0, g1.np⟩
  rw [List.any_eq_false]
  intro x hx
  have : 0 ≤ x ∧ x < p := addP_rng (show 1 ≤ p by omega) (a :: m) (b :: k) x hx
  simp [badB]
  omega
end Go.Proofs.Ytfgmnlphejpcaaa
