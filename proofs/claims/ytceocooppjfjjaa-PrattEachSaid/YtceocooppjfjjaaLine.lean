/- Rows of lines (pratt) behind an address; a slice of lines that came in. -/
import Derived.Test.YtceocooppjfjjaaRowL
import Derived.Test.YtceocooppjfjjaaFlat
import Derived.Test.YtceocooppjfjjaaPraM
namespace Go.Proofs.Ytceocooppjfjjaa
open Go.RowKit Go.ChangeShapes Go.WideShapes
set_option linter.unusedVariables false
set_option linter.unusedSimpArgs false
structure RowN (W : World) (a : Option Addr) (R : Nat → Option Addr × Nat) (L : List M.Ln) : Prop where
  nil : a = none → L = []
  cells : ∀ ad, a = some ad → ∀ (i : Nat) (x : M.Ln), L[i]? = some x → W.cell? (ad.add (i * 3 + 0)) = some (.int .i64 x.n) ∧ W.cell? (ad.add (i * 3 + 1)) = some (.int .i64 x.g) ∧ W.cell? (ad.add (i * 3 + 2)) = some (.slice (R i).1 x.src.length (R i).2)
  row : ∀ (i : Nat) (x : M.Ln), L[i]? = some x → RowL W (R i).1 (R i).2 x.src
theorem RowN.below {W W' : World} {a : Option Addr} {R : Nat → Option Addr × Nat} {L : List M.Ln} (h : RowN W a R L) {B : Nat} (hb : Below B W W') (hB : W.heap.size ≤ B) : RowN W' a R L :=
  ⟨h.nil, fun ad e i x hx => by
    obtain ⟨k0, k1, k2⟩ := h.cells ad e i x hx
    exact ⟨(hb.cell (p := ad.add (i * 3 + 0)) (Nat.lt_of_lt_of_le (World.block_lt_of_cell? W _ k0) hB)).trans k0, (hb.cell (p := ad.add (i * 3 + 1)) (Nat.lt_of_lt_of_le (World.block_lt_of_cell? W _ k1) hB)).trans k1,
      (hb.cell (p := ad.add (i * 3 + 2)) (Nat.lt_of_lt_of_le (World.block_lt_of_cell? W _ k2) hB)).trans k2⟩, fun i x hx => (h.row i x hx).below hb hB⟩
theorem RowN.shape {W : World} {a : Option Addr} {R : Nat → Option Addr × Nat} {L : List M.Ln} (h : RowN W a R L) (hne : 0 < L.length) :
    ∃ b o, a = some ⟨b, o, none⟩ ∧ ∀ (i : Nat) (x : M.Ln), L[i]? = some x → W.cell? ⟨b, o + i * 3, none⟩ = some (.int .i64 x.n) ∧ W.cell? ⟨b, o + i * 3 + 1, none⟩ = some (.int .i64 x.g) ∧ W.cell? ⟨b, o + i * 3 + 2, none⟩ = some (.slice (R i).1 x.src.length (R i).2) := by
  rcases a with _ | ⟨b, o, s⟩
  · have := h.nil rfl; subst this; simp at hne
  · have k0 := (h.cells _ rfl 0 L[0] (List.getElem?_eq_getElem hne)).1
    have hs : s = none := by
      cases s with
      | none => rfl
      | some y =>
        simp [World.cell?, Addr.add] at k0
        split at k0 <;> simp at k0
    subst hs
    refine ⟨b, o, rfl, fun i x hx => ?_⟩
    obtain ⟨k0, k1, k2⟩ := h.cells _ rfl i x hx
    rw [Addr.add_lit] at k0 k1 k2
    exact ⟨k0, by rw [Nat.add_assoc]; exact k1, by rw [Nat.add_assoc]; exact k2⟩
def fits (x : Int) : Prop := -9223372036854775808 ≤ x ∧ x ≤ 9223372036854775807
def IsLns (W : World) (a : Option Addr) (len cap : Nat) (L : List M.Ln) : Prop :=
  L.length = len ∧ len ≤ 9223372036854775807 ∧ (∃ R, RowN W a R L) ∧ ∀ x ∈ L, fits x.n ∧ fits x.g ∧ x.src.length * 8 ≤ 140737488355328 ∧ ∀ k ∈ x.src, fits k
theorem lns_open {H : Type} {enc : TypeId × Value → H} {W : World} {fuel : Nat} {a : Option Addr} {len cap : Nat} {x : DataW H × List MemPlace}
    (hf : DataW.trod enc Try.prog W 0 (fun _ => true) true fuel 36 [.slice a len cap] = some x) (hz : ∀ n ∈ x.1.weights Try.prog 36, n ≤ reachBytes) : ∃ L, IsLns W a len cap L := by
  have eb : Try.prog.bytesOf 3 = 8 := by kernel_rfl
  obtain ⟨fs, hfs, hsz, hof, h0, h1, h2⟩ : ∃ fs : Array Field, Try.prog.underlying 43 = some (.struct fs) ∧ fs.size = 3 ∧ (∀ (j : Nat) (f : Field), fs[j]? = some f → f.offset = j ∧ Try.prog.cellsOf f.type = 1) ∧
      (∃ f, fs[0]? = some f ∧ f.type = 2) ∧ (∃ f, fs[1]? = some f ∧ f.type = 2) ∧ (∃ f, fs[2]? = some f ∧ f.type = 41) := by
    refine ⟨_, Try.underlying43, rfl, ?_, ⟨_, rfl, rfl⟩, ⟨_, rfl, rfl⟩, ⟨_, rfl, rfl⟩⟩
    intro j f hj
    match j, hj with
    | 0, hj => cases hj; exact ⟨rfl, by kernel_rfl⟩
    | 1, hj => cases hj; exact ⟨rfl, by kernel_rfl⟩
    | 2, hj => cases hj; exact ⟨rfl, by kernel_rfl⟩
  obtain ⟨f0, g0, t0⟩ := h0
  obtain ⟨f1, g1, t1⟩ := h1
  obtain ⟨f2, g2, t2⟩ := h2
  rcases open_slice_flat Try.underlying36 hfs (by kernel_rfl : Try.prog.cellsOf 43 = 3) hsz hof hf with hcs | ⟨ad, l, c, hcs, hl, hm, hc⟩
  · simp at hcs
    obtain ⟨rfl, rfl, rfl⟩ := hcs
    exact ⟨[], rfl, by omega, ⟨fun _ => (none, 0), ⟨fun _ => rfl, (fun ad e => by cases e), (fun i xs h => by simp at h)⟩⟩, by simp⟩
  · simp at hcs
    obtain ⟨rfl, rfl, rfl⟩ := hcs
    unfold maxLen at hm
    have each : ∀ i, i < len → ∃ y : M.Ln × Option Addr × Nat, W.cell? (ad.add (i * 3 + 0)) = some (.int .i64 y.1.n) ∧ W.cell? (ad.add (i * 3 + 1)) = some (.int .i64 y.1.g) ∧ W.cell? (ad.add (i * 3 + 2)) = some (.slice y.2.1 y.1.src.length y.2.2) ∧
        RowL W y.2.1 y.2.2 y.1.src ∧ fits y.1.n ∧ fits y.1.g ∧ y.1.src.length * 8 ≤ 140737488355328 ∧ ∀ k ∈ y.1.src, fits k := by
      intro i hi
      obtain ⟨v0, d0, n0, c0, r0, _⟩ := hc i (by omega) 0 f0 g0
      obtain ⟨v1, d1, n1, c1, r1, _⟩ := hc i (by omega) 1 f1 g1
      obtain ⟨v2, d2, n2, c2, r2, q2⟩ := hc i (by omega) 2 f2 g2
      rw [t0] at r0
      rw [t1] at r1
      rw [t2] at r2 q2
      obtain ⟨x, ex, _, wx⟩ := DataW.trod_int Try.underlying2 r0
      obtain ⟨y, ey, _, wy⟩ := DataW.trod_int Try.underlying2 r1
      simp at ex ey
      rcases open_ints Try.underlying41 Try.underlying3 (by kernel_rfl) r2 with ⟨hcs, _⟩ | ⟨b, ln, cp, zs, hcs, _, hl2, hm2, hzl, hd2, hcell, hwz⟩
      · simp at hcs
        exact ⟨(⟨x, y, []⟩, none, 0), by rw [c0, ex], by rw [c1, ey], by rw [c2, hcs]; rfl, RowL.nil _, wf64 wx, wf64 wy, by simp, by simp⟩
      · simp at hcs hzl
        have hr : IsRow .i64 W (some b) ln cp zs := .inr ⟨b, rfl, hl2, hm2, hzl, hcell, hwz⟩
        obtain ⟨xs, hxl, hrow, hfit, hlm⟩ := hr.longs
        subst hxl
        have hwt : xs.length * 8 ≤ 140737488355328 := by
          have h8 := hz _ (q2 hi _ (by rw [hd2]; simp only [DataW.weights, Try.underlying41]; exact List.mem_cons_self))
          rw [eb] at h8
          unfold reachBytes at h8
          simp [lits] at h8
          omega
        exact ⟨(⟨x, y, xs⟩, some b, cp), by rw [c0, ex], by rw [c1, ey], by rw [c2, hcs], hrow, wf64 wx, wf64 wy, hwt, fun k hk => hfit k hk⟩
    obtain ⟨y, hy⟩ := Go.Deep.choose_lt each
    have hat : ∀ (i : Nat) (z : M.Ln), ((List.range len).map fun i => (y i).1)[i]? = some z → i < len ∧ z = (y i).1 := fun i z hz => by
      have hi : i < len := by have := (List.getElem?_eq_some_iff.1 hz).1; simpa using this
      rw [List.getElem?_map, List.getElem?_range hi] at hz
      exact ⟨hi, by simpa using hz.symm⟩
    refine ⟨(List.range len).map fun i => (y i).1, by simp, by omega, ⟨fun i => (y i).2, ⟨(fun e => by cases e), fun ad' e i z hz => ?_, fun i z hz => ?_⟩⟩, fun z hz => ?_⟩
    · cases e
      obtain ⟨hi, rfl⟩ := hat i z hz
      obtain ⟨a0, a1, a2, _⟩ := hy i hi
      exact ⟨a0, a1, a2⟩
    · obtain ⟨hi, rfl⟩ := hat i z hz
      exact (hy i hi).2.2.2.1
    · obtain ⟨i, hi, rfl⟩ := List.mem_map.1 hz
      obtain ⟨_, _, _, _, b1, b2, b3, b4⟩ := hy i (List.mem_range.1 hi)
      exact ⟨b1, b2, b3, b4⟩
end Go.Proofs.Ytceocooppjfjjaa
