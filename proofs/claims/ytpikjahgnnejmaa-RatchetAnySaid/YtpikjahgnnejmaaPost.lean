/- Rows of posts (three ints) behind an address; a slice of posts that came in. -/
import Derived.Test.YtpikjahgnnejmaaFlat
import Derived.Test.YtpikjahgnnejmaaPad
namespace Go.Proofs.Ytpikjahgnnejmaa
open Go.RowKit Go.ChangeShapes Go.WideShapes
set_option linter.unusedVariables false
set_option linter.unusedSimpArgs false
structure Po where
  kind : Int
  msg : Int
  n : Int
  deriving Inhabited
structure RowT (W : World) (a : Option Addr) (L : List Po) : Prop where
  nil : a = none → L = []
  cells : ∀ ad, a = some ad → ∀ (i : Nat) (x : Po), L[i]? = some x → W.cell? (ad.add (i * 3 + 0)) = some (.int .i64 x.kind) ∧ W.cell? (ad.add (i * 3 + 1)) = some (.int .i64 x.msg) ∧ W.cell? (ad.add (i * 3 + 2)) = some (.int .i64 x.n)
theorem RowT.below {W W' : World} {a : Option Addr} {L : List Po} (h : RowT W a L) {B : Nat} (hb : Below B W W') (hB : W.heap.size ≤ B) : RowT W' a L :=
  ⟨h.nil, fun ad e i x hx => by
    obtain ⟨k0, k1, k2⟩ := h.cells ad e i x hx
    exact ⟨(hb.cell (p := ad.add (i * 3 + 0)) (Nat.lt_of_lt_of_le (World.block_lt_of_cell? W _ k0) hB)).trans k0, (hb.cell (p := ad.add (i * 3 + 1)) (Nat.lt_of_lt_of_le (World.block_lt_of_cell? W _ k1) hB)).trans k1,
      (hb.cell (p := ad.add (i * 3 + 2)) (Nat.lt_of_lt_of_le (World.block_lt_of_cell? W _ k2) hB)).trans k2⟩⟩
theorem addr_lit (b o j : Nat) : (⟨b, o, none⟩ : Addr).add j = ⟨b, o + j, none⟩ := by
  unfold Addr.add; split <;> simp_all
theorem RowT.shape {W : World} {a : Option Addr} {L : List Po} (h : RowT W a L) (hne : 0 < L.length) :
    ∃ b o, a = some ⟨b, o, none⟩ ∧ ∀ (i : Nat) (x : Po), L[i]? = some x → W.cell? ⟨b, o + i * 3, none⟩ = some (.int .i64 x.kind) ∧ W.cell? ⟨b, o + i * 3 + 1, none⟩ = some (.int .i64 x.msg) ∧ W.cell? ⟨b, o + i * 3 + 2, none⟩ = some (.int .i64 x.n) := by
  rcases a with _ | ⟨b, o, s⟩
  · have := h.nil rfl; subst this; simp at hne
  · have k0 := (h.cells _ rfl 0 L[0] (List.getElem?_eq_getElem hne)).1
    have hs : s = none := by
      cases s with
      | none => rfl
      | some y =>
        simp [World.cell?, Addr.add] at k0
        split at k0 <;> simp at k0
    subst hs
    refine ⟨b, o, rfl, fun i x hx => ?_⟩
    obtain ⟨k0, k1, k2⟩ := h.cells _ rfl i x hx
    rw [addr_lit] at k0 k1 k2
    exact ⟨k0, by rw [Nat.add_assoc]; exact k1, by rw [Nat.add_assoc]; exact k2⟩
def fits (x : Int) : Prop := -9223372036854775808 ≤ x ∧ x ≤ 9223372036854775807
def IsPosts (W : World) (a : Option Addr) (len cap : Nat) (L : List Po) : Prop :=
  L.length = len ∧ len ≤ 9223372036854775807 ∧ RowT W a L ∧ ∀ x ∈ L, fits x.kind ∧ fits x.msg ∧ fits x.n
theorem posts_open {H : Type} {enc : TypeId × Value → H} {W : World} {fuel : Nat} {a : Option Addr} {len cap : Nat} {x : DataW H × List MemPlace}
    (hf : DataW.trod enc Try.prog W 0 (fun _ => true) true fuel 54 [.slice a len cap] = some x) : ∃ L, IsPosts W a len cap L := by
  obtain ⟨fs, hfs, hsz, hof, h0⟩ : ∃ fs : Array Field, Try.prog.underlying 60 = some (.struct fs) ∧ fs.size = 3 ∧ (∀ (j : Nat) (f : Field), fs[j]? = some f → f.offset = j ∧ Try.prog.cellsOf f.type = 1) ∧
      ∀ j, j < 3 → ∃ f, fs[j]? = some f ∧ f.type = 3 := by
    refine ⟨_, Try.underlying60, rfl, ?_, ?_⟩
    · intro j f hj
      match j, hj with
      | 0, hj => cases hj; exact ⟨rfl, by kernel_rfl⟩
      | 1, hj => cases hj; exact ⟨rfl, by kernel_rfl⟩
      | 2, hj => cases hj; exact ⟨rfl, by kernel_rfl⟩
    · intro j hj
      match j, hj with
      | 0, _ => exact ⟨_, rfl, rfl⟩
      | 1, _ => exact ⟨_, rfl, rfl⟩
      | 2, _ => exact ⟨_, rfl, rfl⟩
  rcases open_slice_flat Try.underlying54 hfs (by kernel_rfl : Try.prog.cellsOf 60 = 3) hsz hof hf with hcs | ⟨ad, l, c, hcs, hl, hm, hc⟩
  · simp at hcs
    obtain ⟨rfl, rfl, rfl⟩ := hcs
    exact ⟨[], rfl, by omega, ⟨fun _ => rfl, (fun ad e => by cases e)⟩, by simp⟩
  · simp at hcs
    obtain ⟨rfl, rfl, rfl⟩ := hcs
    unfold maxLen at hm
    have one : ∀ i, i < len → ∀ j, j < 3 → ∃ y : Int, W.cell? (ad.add (i * 3 + j)) = some (.int .i64 y) ∧ fits y := fun i hi j hj => by
      obtain ⟨f, hf1, hf2⟩ := h0 j hj
      obtain ⟨v0, d0, n0, c0, r0, _⟩ := hc i (by omega) j f hf1
      rw [hf2] at r0
      obtain ⟨x, ex, _, wx⟩ := DataW.trod_int Try.underlying3 r0
      simp at ex
      exact ⟨x, by rw [c0, ex], wf64 wx⟩
    have each : ∀ i, i < len → ∃ y : Po, W.cell? (ad.add (i * 3 + 0)) = some (.int .i64 y.kind) ∧ W.cell? (ad.add (i * 3 + 1)) = some (.int .i64 y.msg) ∧ W.cell? (ad.add (i * 3 + 2)) = some (.int .i64 y.n) ∧ fits y.kind ∧ fits y.msg ∧ fits y.n := by
      intro i hi
      obtain ⟨x, a1, a2⟩ := one i hi 0 (by omega)
      obtain ⟨y, b1, b2⟩ := one i hi 1 (by omega)
      obtain ⟨z, c1, c2⟩ := one i hi 2 (by omega)
      exact ⟨⟨x, y, z⟩, a1, b1, c1, a2, b2, c2⟩
    obtain ⟨y, hy⟩ := Go.Deep.choose_lt each
    have hat : ∀ (i : Nat) (z : Po), ((List.range len).map fun i => y i)[i]? = some z → i < len ∧ z = y i := fun i z hz => by
      have hi : i < len := by have := (List.getElem?_eq_some_iff.1 hz).1; simpa using this
      rw [List.getElem?_map, List.getElem?_range hi] at hz
      exact ⟨hi, by simpa using hz.symm⟩
    refine ⟨(List.range len).map fun i => y i, by simp, by omega, ⟨(fun e => by cases e), fun ad' e i z hz => ?_⟩, fun z hz => ?_⟩
    · cases e
      obtain ⟨hi, rfl⟩ := hat i z hz
      obtain ⟨a0, a1, a2, _⟩ := hy i hi
      exact ⟨a0, a1, a2⟩
    · obtain ⟨i, hi, rfl⟩ := List.mem_map.1 hz
      exact (hy i (List.mem_range.1 hi)).2.2.2
end Go.Proofs.Ytpikjahgnnejmaa
