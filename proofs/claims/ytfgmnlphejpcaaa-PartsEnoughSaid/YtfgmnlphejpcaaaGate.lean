/- Rows of gates (four ints) behind an address; a slice of gates that came in. -/
import Derived.Test.YtfgmnlphejpcaaaFlat
import Derived.Test.YtfgmnlphejpcaaaRowL
namespace Go.Proofs.Ytfgmnlphejpcaaa
open Go.RowKit Go.ChangeShapes Go.WideShapes
set_option linter.unusedVariables false
set_option linter.unusedSimpArgs false
structure Ga where
  kind : Int
  a : Int
  b : Int
  n : Int
  deriving Inhabited
structure RowGa (W : World) (a : Option Addr) (L : List Ga) : Prop where
  nil : a = none → L = []
  cells : ∀ ad, a = some ad → ∀ (i : Nat) (x : Ga), L[i]? = some x → W.cell? (ad.add (i * 4 + 0)) = some (.int .i64 x.kind) ∧ W.cell? (ad.add (i * 4 + 1)) = some (.int .i64 x.a) ∧ W.cell? (ad.add (i * 4 + 2)) = some (.int .i64 x.b) ∧ W.cell? (ad.add (i * 4 + 3)) = some (.int .i64 x.n)
theorem RowGa.below {W W' : World} {a : Option Addr} {L : List Ga} (h : RowGa W a L) {B : Nat} (hb : Below B W W') (hB : W.heap.size ≤ B) : RowGa W' a L :=
  ⟨h.nil, fun ad e i x hx => by
    obtain ⟨k0, k1, k2, k3⟩ := h.cells ad e i x hx
    exact ⟨(hb.cell (p := ad.add (i * 4 + 0)) (Nat.lt_of_lt_of_le (World.block_lt_of_cell? W _ k0) hB)).trans k0, (hb.cell (p := ad.add (i * 4 + 1)) (Nat.lt_of_lt_of_le (World.block_lt_of_cell? W _ k1) hB)).trans k1,
      (hb.cell (p := ad.add (i * 4 + 2)) (Nat.lt_of_lt_of_le (World.block_lt_of_cell? W _ k2) hB)).trans k2, (hb.cell (p := ad.add (i * 4 + 3)) (Nat.lt_of_lt_of_le (World.block_lt_of_cell? W _ k3) hB)).trans k3⟩⟩
theorem addr_lit (b o j : Nat) : (⟨b, o, none⟩ : Addr).add j = ⟨b, o + j, none⟩ := by
  unfold Addr.add; split <;> simp_all
theorem RowGa.shape {W : World} {a : Option Addr} {L : List Ga} (h : RowGa W a L) (hne : 0 < L.length) :
    ∃ b o, a = some ⟨b, o, none⟩ ∧ ∀ (i : Nat) (x : Ga), L[i]? = some x → W.cell? ⟨b, o + i * 4, none⟩ = some (.int .i64 x.kind) ∧ W.cell? ⟨b, o + i * 4 + 1, none⟩ = some (.int .i64 x.a) ∧ W.cell? ⟨b, o + i * 4 + 2, none⟩ = some (.int .i64 x.b) ∧ W.cell? ⟨b, o + i * 4 + 3, none⟩ = some (.int .i64 x.n) := by
  rcases a with _ | ⟨b, o, s⟩
  · have := h.nil rfl; subst this; simp at hne
  · have k0 := (h.cells _ rfl 0 L[0] (List.getElem?_eq_getElem hne)).1
    have hs : s = none := by
      cases s with
      | none => rfl
      | some y =>
        simp [World.cell?, Addr.add] at k0
        split at k0 <;> simp at k0
    subst hs
    refine ⟨b, o, rfl, fun i x hx => ?_⟩
    obtain ⟨k0, k1, k2, k3⟩ := h.cells _ rfl i x hx
    rw [addr_lit] at k0 k1 k2 k3
    exact ⟨k0, by rw [Nat.add_assoc]; exact k1, by rw [Nat.add_assoc]; exact k2, by rw [Nat.add_assoc]; exact k3⟩
def fits (x : Int) : Prop := -9223372036854775808 ≤ x ∧ x ≤ 9223372036854775807
def IsGates (W : World) (a : Option Addr) (len cap : Nat) (L : List Ga) : Prop :=
  L.length = len ∧ len ≤ 9223372036854775807 ∧ RowGa W a L ∧ ∀ x ∈ L, fits x.kind ∧ fits x.a ∧ fits x.b ∧ fits x.n
theorem gates_open {H : Type} {enc : TypeId × Value → H} {W : World} {fuel : Nat} {a : Option Addr} {len cap : Nat} {x : DataW H × List MemPlace}
    (hf : DataW.trod enc Try.prog W 0 (fun _ => true) true fuel 55 [.slice a len cap] = some x) : ∃ L, IsGates W a len cap L := by
  obtain ⟨fs, hfs, hsz, hof, h0⟩ : ∃ fs : Array Field, Try.prog.underlying 80 = some (.struct fs) ∧ fs.size = 4 ∧ (∀ (j : Nat) (f : Field), fs[j]? = some f → f.offset = j ∧ Try.prog.cellsOf f.type = 1) ∧
      ∀ j, j < 4 → ∃ f, fs[j]? = some f ∧ (f.type = 3 ∨ f.type = 2) := by
    refine ⟨_, Try.underlying80, rfl, ?_, ?_⟩
    · intro j f hj
      match j, hj with
      | 0, hj => cases hj; exact ⟨rfl, by kernel_rfl⟩
      | 1, hj => cases hj; exact ⟨rfl, by kernel_rfl⟩
      | 2, hj => cases hj; exact ⟨rfl, by kernel_rfl⟩
      | 3, hj => cases hj; exact ⟨rfl, by kernel_rfl⟩
    · intro j hj
      match j, hj with
      | 0, _ => exact ⟨_, rfl, .inl rfl⟩
      | 1, _ => exact ⟨_, rfl, .inl rfl⟩
      | 2, _ => exact ⟨_, rfl, .inl rfl⟩
      | 3, _ => exact ⟨_, rfl, .inr rfl⟩
  rcases open_slice_flat Try.underlying55 hfs (by kernel_rfl : Try.prog.cellsOf 80 = 4) hsz hof hf with hcs | ⟨ad, l, c, hcs, hl, hm, hc⟩
  · simp at hcs
    obtain ⟨rfl, rfl, rfl⟩ := hcs
    exact ⟨[], rfl, by omega, ⟨fun _ => rfl, (fun ad e => by cases e)⟩, by simp⟩
  · simp at hcs
    obtain ⟨rfl, rfl, rfl⟩ := hcs
    unfold maxLen at hm
    have one : ∀ i, i < len → ∀ j, j < 4 → ∃ y : Int, W.cell? (ad.add (i * 4 + j)) = some (.int .i64 y) ∧ fits y := fun i hi j hj => by
      obtain ⟨f, hf1, hf2⟩ := h0 j hj
      obtain ⟨v0, d0, n0, c0, r0, _⟩ := hc i (by omega) j f hf1
      rcases hf2 with hf2 | hf2
      · rw [hf2] at r0
        obtain ⟨x, ex, _, wx⟩ := DataW.trod_int Try.underlying3 r0
        simp at ex
        exact ⟨x, by rw [c0, ex], wf64 wx⟩
      · rw [hf2] at r0
        obtain ⟨x, ex, _, wx⟩ := DataW.trod_int Try.underlying2 r0
        simp at ex
        exact ⟨x, by rw [c0, ex], wf64 wx⟩
    have each : ∀ i, i < len → ∃ y : Ga, W.cell? (ad.add (i * 4 + 0)) = some (.int .i64 y.kind) ∧ W.cell? (ad.add (i * 4 + 1)) = some (.int .i64 y.a) ∧ W.cell? (ad.add (i * 4 + 2)) = some (.int .i64 y.b) ∧ W.cell? (ad.add (i * 4 + 3)) = some (.int .i64 y.n) ∧ fits y.kind ∧ fits y.a ∧ fits y.b ∧ fits y.n := by
      intro i hi
      obtain ⟨x, a1, a2⟩ := one i hi 0 (by omega)
      obtain ⟨y, b1, b2⟩ := one i hi 1 (by omega)
      obtain ⟨z, c1, c2⟩ := one i hi 2 (by omega)
      obtain ⟨u, d1, d2⟩ := one i hi 3 (by omega)
      exact ⟨⟨x, y, z, u⟩, a1, b1, c1, d1, a2, b2, c2, d2⟩
    obtain ⟨y, hy⟩ := Go.Deep.choose_lt each
    have hat : ∀ (i : Nat) (z : Ga), ((List.range len).map fun i => y i)[i]? = some z → i < len ∧ z = y i := fun i z hz => by
      have hi : i < len := by have := (List.getElem?_eq_some_iff.1 hz).1; simpa using this
      rw [List.getElem?_map, List.getElem?_range hi] at hz
      exact ⟨hi, by simpa using hz.symm⟩
    refine ⟨(List.range len).map fun i => y i, by simp, by omega, ⟨(fun e => by cases e), fun ad' e i z hz => ?_⟩, fun z hz => ?_⟩
    · cases e
      obtain ⟨hi, rfl⟩ := hat i z hz
      obtain ⟨a0, a1, a2, a3, _⟩ := hy i hi
      exact ⟨a0, a1, a2, a3⟩
    · obtain ⟨i, hi, rfl⟩ := List.mem_map.1 hz
      exact (hy i (List.mem_range.1 hi)).2.2.2.2
end Go.Proofs.Ytfgmnlphejpcaaa
