/- Rows of bools behind an address. -/
import Derived.Test.YteggmpogcpceeaaOwnG
import Derived.Deep.Grids
namespace Go.Proofs.Yteggmpogcpceeaa
open Go.RowKit
set_option linter.unusedVariables false
set_option linter.unusedSimpArgs false
/-- bools as values -/
def bV (l : List Bool) : List Value := l.map Value.bool
theorem bV_len (l : List Bool) : (bV l).length = l.length := by simp [bV]
theorem bV_one (l : List Bool) : ∀ u ∈ bV l, u.oneCell' = true := by
  intro u hu; simp [bV] at hu; rcases hu with ⟨_, rfl⟩ | ⟨_, rfl⟩ <;> rfl
/-- a row of bools behind an address -/
def RowT (W : World) (a : Option Addr) (c : Nat) (xs : List Bool) : Prop := (a = none → xs = [] ∧ c = 0) ∧ (∀ ad, a = some ad → ∀ (j : Nat) (u : Value), (bV xs)[j]? = some u → W.cell? (ad.add j) = some u) ∧ xs.length ≤ c
theorem RowT.below {W W' : World} {a : Option Addr} {c : Nat} {xs : List Bool} (h : RowT W a c xs) {B : Nat} (hb : Below B W W') (hB : W.heap.size ≤ B) : RowT W' a c xs :=
  ⟨h.1, fun ad e j u hu => by
    have k := h.2.1 ad e j u hu
    exact (hb.cell (p := ad.add j) (Nat.lt_of_lt_of_le (World.block_lt_of_cell? W _ k) hB)).trans k, h.2.2⟩
theorem RowT.shape {W : World} {a : Option Addr} {c : Nat} {xs : List Bool} (h : RowT W a c xs) (hne : 0 < xs.length) :
    ∃ b o, a = some ⟨b, o, none⟩ ∧ ∀ (j : Nat) (x : Bool), xs[j]? = some x → W.cell? ⟨b, o + j, none⟩ = some (.bool x) := by
  rcases a with _ | ⟨b, o, s⟩
  · have := (h.1 rfl).1; subst this; simp at hne
  · have k0 := h.2.1 _ rfl 0 (.bool xs[0]) (by simp [bV, hne])
    have hs : s = none := by
      cases s with
      | none => rfl
      | some y =>
        simp [World.cell?, Addr.add] at k0
        split at k0 <;> simp at k0
    subst hs
    refine ⟨b, o, rfl, fun j x hx => ?_⟩
    have k := h.2.1 _ rfl j (.bool x) (by simp [bV, hx])
    rw [Addr.add_lit] at k
    exact k
theorem RowT.nil (W : World) : RowT W none 0 [] := ⟨fun _ => ⟨rfl, rfl⟩, (fun ad e => by cases e), Nat.le_refl _⟩
theorem RowT.take {W : World} {a : Option Addr} {c : Nat} {xs : List Bool} (h : RowT W a c xs) (k : Nat) : RowT W a c (xs.take k) :=
  ⟨fun e => by
    have := h.1 e
    rw [this.1]; exact ⟨List.take_nil, this.2⟩, (fun ad e j u hu => by
    refine h.2.1 ad e j u ?_
    simp only [bV, List.getElem?_map, List.getElem?_take] at hu ⊢
    split at hu
    · exact hu
    · cases hu), by have := h.2.2; rw [List.length_take]; omega⟩
theorem row_ownT {W : World} {base g k cap : Nat} {xs : List Bool} (h : W.ownsRow base 4 1 (.slice (some ⟨g, 0, none⟩) k cap) k (bV xs)) : RowT W (some ⟨g, 0, none⟩) cap xs := by
  refine ⟨fun e => (by cases e), fun ad e j u hu => ?_, ?_⟩
  · cases e
    rw [add_at]
    exact own_cell h hu
  · have h1 := own_len h
    rw [bV_len] at h1
    obtain ⟨_, _, _, h4, _⟩ := own_heap h
    omega
theorem own_rowT {W : World} {base : Nat} {v : Value} {xs : List Bool} (h : W.ownsRow base 4 1 v xs.length (bV xs)) : ∃ a c, v = .slice a xs.length c ∧ RowT W a c xs := by
  rcases h.2 with ⟨h1, h2⟩ | ⟨g, cap, cur, rfl, _⟩
  · have : xs = [] := List.length_eq_zero_iff.1 h2
    subst this
    exact ⟨none, 0, h1, RowT.nil _⟩
  · exact ⟨_, _, rfl, row_ownT h⟩
theorem bool_info : (Try.prog.info? 4).map (fun i => (i.zero, i.size, i.bytes)) = some (some (.bool false), 1, 1) := by kernel_rfl
theorem cell_newT (w : World) (v : Value) (T : TypeId) (hv : v.oneCell' = true) : ∀ (j : Nat) (u : Value), [v][j]? = some u → (w.alloc (.cells #[v] T)).cell? ((⟨w.heap.size, 0, none⟩ : Addr).add j) = some u := by
  intro j u hu
  match j, hu with
  | 0, hu => cases hu; simp [go_sem, Addr.add]
  | j + 1, hu => simp at hu
/-- a row of bools that came in -/
def IsRowT (W : World) (a : Option Addr) (len cap : Nat) (xs : List Bool) : Prop := xs.length = len ∧ cap ≤ maxLen ∧ RowT W a cap xs
theorem rowT_open {H : Type} {enc : TypeId × Value → H} {W : World} {fuel : Nat} {a : Option Addr} {len cap : Nat} {x : DataW H × List MemPlace}
    (hf : DataW.trod enc Try.prog W 0 (fun _ => true) true fuel 22 [.slice a len cap] = some x) : ∃ xs, IsRowT W a len cap xs := by
  rcases Go.Deep.open_bools Try.underlying22 Try.underlying4 (by kernel_rfl) hf with ⟨hc, _⟩ | ⟨ad, l, c, B, hc, _, hl, hm, _, hcell⟩
  · simp at hc
    obtain ⟨rfl, rfl, rfl⟩ := hc
    exact ⟨[], rfl, by unfold maxLen; omega, RowT.nil _⟩
  · simp at hc
    obtain ⟨rfl, rfl, rfl⟩ := hc
    refine ⟨(List.range len).map B, by simp, hm, fun e => (by cases e), fun ad' e j u hu => ?_, by simp; exact hl⟩
    cases e
    have hj : j < len := by
      have := (List.getElem?_eq_some_iff.1 hu).1
      simpa [bV] using this
    simp only [bV, List.getElem?_map, List.getElem?_range hj, Option.map_some] at hu
    rw [hcell j (by omega)]
    exact hu
end Go.Proofs.Yteggmpogcpceeaa
