/- Merged: XFlat XHops XPlW XPl1 XPl2 XPl3 XPl4. -/
import Derived.Test.YtkodhpjmmiapaaaBase
import Derived.Deep.Slices
import Derived.ChangeSame
import Derived.SizedLaws
import Derived.Test.YtkodhpjmmiapaaaPad
import Derived.Test.YtkodhpjmmiapaaaRelM
import Derived.Test.YtkodhpjmmiapaaaSqE
import Derived.Test.YtkodhpjmmiapaaaByt
/- A slice of structs whose fields are one cell each, opened at every index; what its elements weigh. -/
namespace Go.Proofs.Ytkodhpjmmiapaaa
open Go.RowKit Go.ChangeShapes Go.WideShapes Go.Deep
set_option linter.unusedVariables false
set_option linter.unusedSimpArgs false
theorem weights_all_mem {H : Type} {P : Program} {e : TypeId} : ∀ {l : List (DataW H)} {i : Nat} {d : DataW H}, l[i]? = some d → ∀ n ∈ d.weights P e, n ∈ DataW.weightsAll P e l
  | d0 :: l, 0, d, h, n, hn => by
    simp only [List.getElem?_cons_zero, Option.some.injEq] at h
    subst h
    simp only [DataW.weightsAll, List.mem_append]; exact .inl hn
  | d0 :: l, i + 1, d, h, n, hn => by
    simp only [List.getElem?_cons_succ] at h
    simp only [DataW.weightsAll, List.mem_append]; exact .inr (weights_all_mem h n hn)
  | [], i, d, h, n, hn => by simp at h
theorem open_slice_flat {H : Type} {enc : TypeId × Value → H} {P : Program} {w : World} {base : Nat} {held : Bool} {t e : TypeId} {fs : Array Field} {k : Nat} {fuel : Nat} {cs : List Value} {x : DataW H × List MemPlace}
    (ht : P.underlying t = some (.slice e)) (he : P.underlying e = some (.struct fs)) (ce : P.cellsOf e = k) (hfs : fs.size = k) (hof : ∀ (j : Nat) (f : Field), fs[j]? = some f → f.offset = j ∧ P.cellsOf f.type = 1)
    (h : DataW.trod enc P w base (fun _ => true) held fuel t cs = some x) :
    cs = [.slice none 0 0] ∨ ∃ (a : Addr) (len cap : Nat), cs = [.slice (some a) len cap] ∧ len ≤ cap ∧ cap ≤ maxLen ∧
      ∀ i, i < cap → ∀ (j : Nat) (f : Field), fs[j]? = some f → ∃ v d n, w.cell? (a.add (i * k + j)) = some v ∧ DataW.trod enc P w base (fun _ => true) held n f.type [v] = some d ∧ (i < len → ∀ m ∈ d.1.weights P f.type, m ∈ x.1.weights P t) := by
  rcases open_slice ht h with h0 | ⟨a, len, cap, m, n, D, Pl, rfl, hb, hl, hm, hmm, rfl, hx⟩
  · exact .inl h0.1
  · refine .inr ⟨a, len, cap, rfl, hl, hm, fun i hi j f hf => ?_⟩
    obtain ⟨cs', h1, h2⟩ := hx i (by rw [hmm]; simpa using hi)
    rw [ce] at h1
    obtain ⟨_, hlen, hcell⟩ := World.cells?_some h1
    obtain ⟨xs, n', hk, hxy, _, hxl, hfld⟩ := DataW.trod_struct he h2
    obtain ⟨o1, c1⟩ := hof j f hf
    have hj : j < k := by rw [← hfs]; exact (Array.getElem?_eq_some_iff.1 hf).1
    have g := hfld j f hf
    rw [o1, c1] at g
    have hv : cs'[j]? = some cs'[j] := List.getElem?_eq_getElem (by omega)
    have e1 : (cs'.drop j).take 1 = [cs'[j]] := by
      rw [List.drop_eq_getElem_cons (by omega)]; rfl
    rw [e1] at g
    have hd : xs[j]? = some xs[j] := List.getElem?_eq_getElem (by rw [hxl, hfs]; exact hj)
    rw [hd] at g
    refine ⟨cs'[j], xs[j], n', ?_, g, fun hil mm hmem => ?_⟩
    · have := hcell j hj
      rw [add_add] at this
      rw [this, hv]
    · have hD : D i = .agg (xs.map (·.1)) := congrArg Prod.fst hxy
      have m1 : mm ∈ DataW.weightsEach P (fs.toList.map (·.type)) (xs.map (·.1)) := DataW.weights_mem_each (j := j) (t := f.type) (by simp [hf]) (by rw [List.getElem?_map, hd]; rfl) mm hmem
      have m2 : mm ∈ (D i).weights P e := by rw [hD]; simp only [DataW.weights, he]; exact m1
      have m3 : mm ∈ DataW.weightsAll P e ((List.range len).map D) := weights_all_mem (i := i) (d := D i) (by rw [List.getElem?_map, List.getElem?_range hil]; rfl) mm m2
      simp only [DataW.weights, ht, List.mem_cons, List.mem_append]
      exact .inr (.inl m3)
end Go.Proofs.Ytkodhpjmmiapaaa

/- Rows of hops behind an address; a slice of hops that came in. -/
namespace Go.Proofs.Ytkodhpjmmiapaaa
open Go.RowKit Go.ChangeShapes Go.WideShapes
set_option linter.unusedVariables false
set_option linter.unusedSimpArgs false
/-- a hop's cells -/
def HopC (W : World) (ad : Addr) (i : Nat) (x : Hp) (r : Option Addr × Nat) : Prop :=
  W.cell? (ad.add (i * 7 + 0)) = some (.int .i64 x.kind) ∧ W.cell? (ad.add (i * 7 + 1)) = some (.int .i64 x.k) ∧ W.cell? (ad.add (i * 7 + 2)) = some (.int .i64 x.l) ∧ W.cell? (ad.add (i * 7 + 3)) = some (.slice r.1 x.body.length r.2) ∧
    W.cell? (ad.add (i * 7 + 4)) = some (.int .i64 x.link) ∧ W.cell? (ad.add (i * 7 + 5)) = some (.int .i64 x.at') ∧ W.cell? (ad.add (i * 7 + 6)) = some (.int .u8 (x.turn : Int))
structure RowHop (W : World) (a : Option Addr) (R : Nat → Option Addr × Nat) (L : List Hp) : Prop where
  nil : a = none → L = []
  cells : ∀ ad, a = some ad → ∀ (i : Nat) (x : Hp), L[i]? = some x → HopC W ad i x (R i)
  row : ∀ (i : Nat) (x : Hp), L[i]? = some x → RowB W (R i).1 (R i).2 x.body
  u8 : ∀ x ∈ L, x.turn < 256 ∧ ∀ y ∈ x.body, y < 256
theorem HopC.below {W W' : World} {ad : Addr} {i : Nat} {x : Hp} {r : Option Addr × Nat} (h : HopC W ad i x r) {B : Nat} (hb : Below B W W') (hB : W.heap.size ≤ B) : HopC W' ad i x r := by
  have g : ∀ (p : Addr) (v : Value), W.cell? p = some v → W'.cell? p = some v := fun p v k => (hb.cell (p := p) (Nat.lt_of_lt_of_le (World.block_lt_of_cell? W _ k) hB)).trans k
  obtain ⟨k0, k1, k2, k3, k4, k5, k6⟩ := h
  exact ⟨g _ _ k0, g _ _ k1, g _ _ k2, g _ _ k3, g _ _ k4, g _ _ k5, g _ _ k6⟩
theorem RowHop.below {W W' : World} {a : Option Addr} {R : Nat → Option Addr × Nat} {L : List Hp} (h : RowHop W a R L) {B : Nat} (hb : Below B W W') (hB : W.heap.size ≤ B) : RowHop W' a R L :=
  ⟨h.nil, fun ad e i x hx => (h.cells ad e i x hx).below hb hB, fun i x hx => (h.row i x hx).below hb hB, h.u8⟩
theorem RowHop.take {W : World} {a : Option Addr} {R : Nat → Option Addr × Nat} {L : List Hp} (h : RowHop W a R L) (k : Nat) : RowHop W a R (L.take k) := by
  have hh : ∀ (i : Nat) (x : Hp), (L.take k)[i]? = some x → L[i]? = some x := fun i x hx => by
    rw [List.getElem?_take] at hx
    split at hx
    · exact hx
    · cases hx
  exact ⟨fun e => by rw [h.nil e, List.take_nil], fun ad e i x hx => h.cells ad e i x (hh i x hx), fun i x hx => h.row i x (hh i x hx), fun x hx => h.u8 x (List.mem_of_mem_take hx)⟩
theorem RowHop.shape {W : World} {a : Option Addr} {R : Nat → Option Addr × Nat} {L : List Hp} (h : RowHop W a R L) (hne : 0 < L.length) :
    ∃ b o, a = some ⟨b, o, none⟩ ∧ ∀ (i : Nat) (x : Hp), L[i]? = some x → W.cell? ⟨b, o + i * 7, none⟩ = some (.int .i64 x.kind) ∧ W.cell? ⟨b, o + i * 7 + 1, none⟩ = some (.int .i64 x.k) ∧ W.cell? ⟨b, o + i * 7 + 2, none⟩ = some (.int .i64 x.l) ∧ W.cell? ⟨b, o + i * 7 + 3, none⟩ = some (.slice (R i).1 x.body.length (R i).2) ∧
      W.cell? ⟨b, o + i * 7 + 4, none⟩ = some (.int .i64 x.link) ∧ W.cell? ⟨b, o + i * 7 + 5, none⟩ = some (.int .i64 x.at') ∧ W.cell? ⟨b, o + i * 7 + 6, none⟩ = some (.int .u8 (x.turn : Int)) := by
  rcases a with _ | ⟨b, o, s⟩
  · have := h.nil rfl; subst this; simp at hne
  · have k0 := (h.cells _ rfl 0 L[0] (List.getElem?_eq_getElem hne)).1
    have hs : s = none := by
      cases s with
      | none => rfl
      | some y =>
        simp [World.cell?, Addr.add] at k0
        split at k0 <;> simp at k0
    subst hs
    refine ⟨b, o, rfl, fun i x hx => ?_⟩
    obtain ⟨k0, k1, k2, k3, k4, k5, k6⟩ := h.cells _ rfl i x hx
    rw [Addr.add_lit] at k0 k1 k2 k3 k4 k5 k6
    exact ⟨k0, by rw [Nat.add_assoc]; exact k1, by rw [Nat.add_assoc]; exact k2, by rw [Nat.add_assoc]; exact k3, by rw [Nat.add_assoc]; exact k4, by rw [Nat.add_assoc]; exact k5, by rw [Nat.add_assoc]; exact k6⟩
def IsHops (W : World) (a : Option Addr) (len cap : Nat) (L : List Hp) : Prop :=
  L.length = len ∧ len ≤ 9223372036854775807 ∧ len ≤ cap ∧ ∃ R, RowHop W a R L
theorem hops_open {H : Type} {enc : TypeId × Value → H} {W : World} {fuel : Nat} {a : Option Addr} {len cap : Nat} {x : DataW H × List MemPlace}
    (hf : DataW.trod enc Try.prog W 0 (fun _ => true) true fuel 25 [.slice a len cap] = some x) : ∃ L, IsHops W a len cap L := by
  obtain ⟨fs, hfs, hsz, hof, h0, h1, h2, h3, h4, h5, h6⟩ : ∃ fs : Array Field, Try.prog.underlying 33 = some (.struct fs) ∧ fs.size = 7 ∧ (∀ (j : Nat) (f : Field), fs[j]? = some f → f.offset = j ∧ Try.prog.cellsOf f.type = 1) ∧
      (∃ f, fs[0]? = some f ∧ f.type = 3) ∧ (∃ f, fs[1]? = some f ∧ f.type = 2) ∧ (∃ f, fs[2]? = some f ∧ f.type = 2) ∧ (∃ f, fs[3]? = some f ∧ f.type = 31) ∧ (∃ f, fs[4]? = some f ∧ f.type = 3) ∧ (∃ f, fs[5]? = some f ∧ f.type = 3) ∧ (∃ f, fs[6]? = some f ∧ f.type = 5) := by
    refine ⟨_, Try.underlying33, rfl, ?_, ⟨_, rfl, rfl⟩, ⟨_, rfl, rfl⟩, ⟨_, rfl, rfl⟩, ⟨_, rfl, rfl⟩, ⟨_, rfl, rfl⟩, ⟨_, rfl, rfl⟩, ⟨_, rfl, rfl⟩⟩
    intro j f hj
    match j, hj with
    | 0, hj => cases hj; exact ⟨rfl, by kernel_rfl⟩
    | 1, hj => cases hj; exact ⟨rfl, by kernel_rfl⟩
    | 2, hj => cases hj; exact ⟨rfl, by kernel_rfl⟩
    | 3, hj => cases hj; exact ⟨rfl, by kernel_rfl⟩
    | 4, hj => cases hj; exact ⟨rfl, by kernel_rfl⟩
    | 5, hj => cases hj; exact ⟨rfl, by kernel_rfl⟩
    | 6, hj => cases hj; exact ⟨rfl, by kernel_rfl⟩
  rcases open_slice_flat Try.underlying25 hfs (by kernel_rfl : Try.prog.cellsOf 33 = 7) hsz hof hf with hcs | ⟨ad, l, c, hcs, hl, hm, hc⟩
  · simp at hcs
    obtain ⟨rfl, rfl, rfl⟩ := hcs
    exact ⟨[], rfl, by omega, Nat.le_refl _, fun _ => (none, 0), ⟨fun _ => rfl, (fun ad e => by cases e), (fun i xs h => by simp at h), by simp⟩⟩
  · simp at hcs
    obtain ⟨rfl, rfl, rfl⟩ := hcs
    unfold maxLen at hm
    have num : ∀ i, i < len → ∀ j, (∃ f, fs[j]? = some f ∧ f.type = 3) → ∃ y : Int, W.cell? (ad.add (i * 7 + j)) = some (.int .i64 y) := fun i hi j ⟨f, hf1, hf2⟩ => by
      obtain ⟨v0, d0, n0, c0, r0, _⟩ := hc i (by omega) j f hf1
      rw [hf2] at r0
      obtain ⟨x, ex, _, wx⟩ := DataW.trod_int Try.underlying3 r0
      simp at ex
      exact ⟨x, by rw [c0, ex]⟩
    have num2 : ∀ i, i < len → ∀ j, (∃ f, fs[j]? = some f ∧ f.type = 2) → ∃ y : Int, W.cell? (ad.add (i * 7 + j)) = some (.int .i64 y) := fun i hi j ⟨f, hf1, hf2⟩ => by
      obtain ⟨v0, d0, n0, c0, r0, _⟩ := hc i (by omega) j f hf1
      rw [hf2] at r0
      obtain ⟨x, ex, _, wx⟩ := DataW.trod_int Try.underlying2 r0
      simp at ex
      exact ⟨x, by rw [c0, ex]⟩
    have each : ∀ i, i < len → ∃ y : Hp × Option Addr × Nat, HopC W ad i y.1 y.2 ∧ RowB W y.2.1 y.2.2 y.1.body ∧ y.1.turn < 256 ∧ ∀ z ∈ y.1.body, z < 256 := by
      intro i hi
      obtain ⟨y0, k0⟩ := num i hi 0 h0
      obtain ⟨y1, k1⟩ := num2 i hi 1 h1
      obtain ⟨y2, k2⟩ := num2 i hi 2 h2
      obtain ⟨y4, k4⟩ := num i hi 4 h4
      obtain ⟨y5, k5⟩ := num i hi 5 h5
      obtain ⟨f6, g6, t6⟩ := h6
      obtain ⟨v6, d6, n6, c6, r6, _⟩ := hc i (by omega) 6 f6 g6
      rw [t6] at r6
      obtain ⟨y6, e6, _, w6⟩ := DataW.trod_int Try.underlying5 r6
      simp at e6
      have w6' : 0 ≤ y6 ∧ y6 < 256 := by
        have : -0 ≤ y6 ∧ y6 ≤ 255 := by simpa [Lit.wf, IntKind.min, IntKind.max, IntKind.signed, go_sem] using w6
        omega
      obtain ⟨z6, rfl⟩ := Int.eq_ofNat_of_zero_le w6'.1
      obtain ⟨f3, g3, t3⟩ := h3
      obtain ⟨v3, d3, n3, c3, r3, _⟩ := hc i (by omega) 3 f3 g3
      rw [t3] at r3
      rcases open_ints Try.underlying31 Try.underlying5 (by kernel_rfl) r3 with ⟨hcs, _⟩ | ⟨b, ln, cp, zs, hcs, _, hl2, hm2, hzl, hd2, hcell, hwz⟩
      · simp at hcs
        exact ⟨(⟨y0, y1, y2, [], y4, y5, z6⟩, none, 0), ⟨k0, k1, k2, by rw [c3, hcs]; rfl, k4, k5, by rw [c6, e6]⟩, ⟨fun _ => ⟨rfl, rfl⟩, (fun ad e => by cases e)⟩, by show z6 < 256; omega, by simp⟩
      · simp at hcs hzl
        have hr : IsRow .u8 W (some b) ln cp zs := .inr ⟨b, rfl, hl2, hm2, hzl, hcell, hwz⟩
        obtain ⟨xs, hxl, hrow, hfit, hlm⟩ := hr.bytes
        subst hxl
        exact ⟨(⟨y0, y1, y2, xs, y4, y5, z6⟩, some b, cp), ⟨k0, k1, k2, by rw [c3, hcs], k4, k5, by rw [c6, e6]⟩, hrow, by show z6 < 256; omega, hfit⟩
    obtain ⟨y, hy⟩ := Go.Deep.choose_lt each
    have hat : ∀ (i : Nat) (z : Hp), ((List.range len).map fun i => (y i).1)[i]? = some z → i < len ∧ z = (y i).1 := fun i z hz => by
      have hi : i < len := by have := (List.getElem?_eq_some_iff.1 hz).1; simpa using this
      rw [List.getElem?_map, List.getElem?_range hi] at hz
      exact ⟨hi, by simpa using hz.symm⟩
    refine ⟨(List.range len).map fun i => (y i).1, by simp, by omega, hl, fun i => (y i).2, ⟨(fun e => by cases e), fun ad' e i z hz => ?_, fun i z hz => ?_, fun z hz => ?_⟩⟩
    · cases e
      obtain ⟨hi, rfl⟩ := hat i z hz
      exact (hy i hi).1
    · obtain ⟨hi, rfl⟩ := hat i z hz
      exact (hy i hi).2.1
    · obtain ⟨i, hi, rfl⟩ := List.mem_map.1 hz
      exact (hy i (List.mem_range.1 hi)).2.2
end Go.Proofs.Ytkodhpjmmiapaaa

/- Worlds of relay.Play. -/
namespace Go.Proofs.Ytkodhpjmmiapaaa
open Go.RowKit
set_option linter.unusedVariables false
set_option linter.unusedSimpArgs false
def flatR : List (Int × List Nat) → List Value → List Value
  | r :: R, v :: vs => .int .i64 r.1 :: v :: flatR R vs
  | _, _ => []
theorem flatR_snoc : ∀ (R : List (Int × List Nat)) (vs : List Value) (r : Int × List Nat) (v : Value), vs.length = R.length → flatR (R ++ [r]) (vs ++ [v]) = flatR R vs ++ [.int .i64 r.1, v]
  | [], [], r, v, _ => rfl
  | [], _ :: _, r, v, h => by simp at h
  | _ :: _, [], r, v, h => by simp at h
  | a :: R, b :: vs, r, v, h => by
    show Value.int .i64 a.1 :: b :: flatR (R ++ [r]) (vs ++ [v]) = _
    rw [flatR_snoc R vs r v (by simpa using h)]
    rfl
theorem flatR_at : ∀ (R : List (Int × List Nat)) (vs : List Value) (i : Nat) (r : Int × List Nat) (v : Value), R[i]? = some r → vs[i]? = some v → (flatR R vs)[i * 2]? = some (.int .i64 r.1) ∧ (flatR R vs)[i * 2 + 1]? = some v
  | [], vs, i, r, v, h, _ => by simp at h
  | _ :: _, [], i, r, v, _, h => by simp at h
  | a :: R, b :: vs, 0, r, v, h1, h2 => by
    simp at h1 h2
    subst h1 h2
    exact ⟨rfl, rfl⟩
  | a :: R, b :: vs, i + 1, r, v, h1, h2 => by
    have := flatR_at R vs i r v (by simpa using h1) (by simpa using h2)
    rw [show (i + 1) * 2 = i * 2 + 1 + 1 by omega]
    exact this
/-- a row of answers -/
structure HopsAt (W : World) (B : Nat) (lv : Value) (vs : List Value) (R : List (Int × List Nat)) : Prop where
  own : W.ownsRow B 35 2 lv R.length (flatR R vs)
  len : vs.length = R.length
  el : ∀ (j : Nat) (u : Value) (r : Int × List Nat), vs[j]? = some u → R[j]? = some r → W.ownsRow B 5 1 u r.2.length (byV r.2)
theorem HopsAt.nil (W : World) (B : Nat) : HopsAt W B (.slice none 0 0) [] [] := ⟨World.ownsRow_nil _ _ _ _, rfl, fun j u r h => by simp at h⟩
theorem own_lower' {w : World} {base base' size n : Nat} {e : TypeId} {v : Value} {xs : List Value} (h : w.ownsRow base e size v n xs) (hb : base' ≤ base) : w.ownsRow base' e size v n xs := by
  refine ⟨h.1, ?_⟩
  rcases h.2 with h0 | ⟨g, cap, cur, hv, hg, rest⟩
  · exact .inl h0
  · exact .inr ⟨g, cap, cur, hv, Nat.le_trans hb hg, rest⟩
theorem own_keep' {W W' : World} {base size n : Nat} {e : TypeId} {v : Value} {xs : List Value} (h : W.ownsRow base e size v n xs) (hb : Below W.heap.size W W') : W'.ownsRow base e size v n xs := by
  refine ⟨h.1, ?_⟩
  rcases h.2 with h0 | ⟨g, cap, cur, hv, hg, h3, rest⟩
  · exact .inl h0
  · exact .inr ⟨g, cap, cur, hv, hg, (hb.block g (Array.getElem?_eq_some_iff.1 h3).1).trans h3, rest⟩
theorem HopsAt.keep {W W' : World} {B : Nat} {lv : Value} {vs : List Value} {R : List (Int × List Nat)} (h : HopsAt W B lv vs R) (hb : Below W.heap.size W W') : HopsAt W' B lv vs R :=
  ⟨own_keep' h.own hb, h.len, fun j u r h1 h2 => own_keep' (h.el j u r h1 h2) hb⟩
theorem HopsAt.lower {W : World} {B B' : Nat} {lv : Value} {vs : List Value} {R : List (Int × List Nat)} (h : HopsAt W B lv vs R) (hB : B' ≤ B) : HopsAt W B' lv vs R :=
  ⟨own_lower' h.own hB, h.len, fun j u r h1 h2 => own_lower' (h.el j u r h1 h2) hB⟩
theorem HopsAt.kp {W W' : World} {wb B : Nat} {lv : Value} {vs : List Value} {R : List (Int × List Nat)} (h : HopsAt W B lv vs R) (hk : Kp wb W W') (hB : wb < B) : HopsAt W' B lv vs R :=
  ⟨hk.own h.own (by decide) hB, h.len, fun j u r h1 h2 => hk.own (h.el j u r h1 h2) (by decide) hB⟩
/-- a store into a block that holds cells of another kind -/
theorem own_other {W : World} {base size n b o : Nat} {e T : TypeId} {v u : Value} {xs : List Value} {cur : Array Value} {f : Nat × Nat} (h : W.ownsRow base e size v n xs) (hx : W.heap[b]? = some (.cells cur T f)) (hT : T ≠ e) : (W.setCell ⟨b, o, none⟩ u).ownsRow base e size v n xs := by
  refine ⟨h.1, ?_⟩
  rcases h.2 with h0 | ⟨g, cap, cu, hv, hg, h3, rest⟩
  · exact .inl h0
  · refine .inr ⟨g, cap, cu, hv, hg, ?_, rest⟩
    rw [Below.heap_setCell _ _ _ _ (show g ≠ (⟨b, o, none⟩ : Addr).block from fun e => by
      simp only at e; subst e; rw [hx] at h3; cases h3; exact hT rfl)]
    exact h3
theorem own_past {W : World} {base size n b o : Nat} {e : TypeId} {v u : Value} {xs : List Value} (h : W.ownsRow base e size v n xs) (hx : ∀ k, v.ownBlock = some k → k ≠ b) : (W.setCell ⟨b, o, none⟩ u).ownsRow base e size v n xs := by
  refine ⟨h.1, ?_⟩
  rcases h.2 with h0 | ⟨g, cap, cu, hv, hg, h3, rest⟩
  · exact .inl h0
  · refine .inr ⟨g, cap, cu, hv, hg, ?_, rest⟩
    rw [Below.heap_setCell _ _ _ _ (show g ≠ (⟨b, o, none⟩ : Addr).block from hx g (by rw [hv]; rfl))]
    exact h3
/-- rows of two kinds lie in two blocks -/
theorem own_grown {W W' : World} {b1 b2 s1 s2 n1 n2 : Nat} {e1 e2 : TypeId} {v1 v2 : Value} {x1 x2 : List Value} (h1 : W.ownsRow b1 e1 s1 v1 n1 x1) (h2 : W.ownsRow b2 e2 s2 v2 n2 x2) (hne : e1 ≠ e2) (hg : W.grownBy W' v2.ownBlock) : W'.ownsRow b1 e1 s1 v1 n1 x1 := by
  refine ⟨h1.1, ?_⟩
  rcases h1.2 with h0 | ⟨g, cap, cu, hv, hg1, h3, rest⟩
  · exact .inl h0
  · refine .inr ⟨g, cap, cu, hv, hg1, ?_, rest⟩
    rw [hg.block g (Array.getElem?_eq_some_iff.1 h3).1 (fun e => ?_)]
    · exact h3
    · rcases h2.2 with ⟨h0, _⟩ | ⟨g', _, _, hv', _, h3', _⟩
      · rw [h0] at e; cases e
      · rw [hv'] at e
        cases e
        rw [h3] at h3'
        cases h3'
        exact hne rfl
/-- the world between two hops -/
structure PlI (w0 : World) (wb : Nat) (P Q G H : Int) (sa : Option Addr) (sc : Nat) (S : List Int) (st : St) (lv : Value) (vs : List Value) (R : List (Int × List Nat)) (W : World) : Prop where
  bel : Below w0.heap.size w0 W
  way : WayS W wb P Q G H sa sc S st
  out : HopsAt W (wb + 1) lv vs R
section
variable {w0 W W' : World} {wb : Nat} {P Q G H : Int} {sa : Option Addr} {sc : Nat} {S : List Int} {st : St} {lv : Value} {vs : List Value} {R : List (Int × List Nat)}
theorem PlI.below (h : PlI w0 wb P Q G H sa sc S st lv vs R W) (hb : Below W.heap.size W W') : PlI w0 wb P Q G H sa sc S st lv vs R W' :=
  ⟨h.bel.trans (hb.mono h.bel.size), h.way.below hb, h.out.keep hb⟩
/-- a store into a block that is none of the rows -/
theorem PlI.past (h : PlI w0 wb P Q G H sa sc S st lv vs R W) {b o : Nat} {u : Value} (hb : wb < b) (h0 : w0.heap.size ≤ b) {cur : Array Value} {f : Nat × Nat} (hx : W.heap[b]? = some (.cells cur 35 f)) (hl : ∀ k, lv.ownBlock = some k → k ≠ b) (hrow : RowL (W.setCell ⟨b, o, none⟩ u) sa sc S) :
    PlI w0 wb P Q G H sa sc S st lv vs R (W.setCell ⟨b, o, none⟩ u) := by
  have hne : b ≠ wb := by omega
  have c : ∀ j, (W.setCell ⟨b, o, none⟩ u).cell? ⟨wb, j, none⟩ = W.cell? ⟨wb, j, none⟩ := fun j => World.cell?_setCell_far _ _ _ _ (show (⟨b, o, none⟩ : Addr).block ≠ (⟨wb, j, none⟩ : Addr).block from hne)
  obtain ⟨kv, x⟩ := h.way.way
  refine ⟨h.bel.setCell (p := ⟨b, o, none⟩) h0 u, ⟨⟨kv, (c 0).trans x.g0, (c 1).trans x.g1, (c 2).trans x.g2, (c 3).trans x.g3, (c 4).trans x.c4, (c 5).trans x.c5, own_other x.own hx (by decide), by rw [World.frozen?_setCell]; exact x.f5, hrow⟩, (c 6).trans h.way.t6, (c 7).trans h.way.m7, fun j => by rw [World.frozen?_setCell]; exact h.way.fr j⟩, ?_⟩
  exact ⟨own_past h.out.own hl, h.out.len, fun j v r h1 h2 => own_other (h.out.el j v r h1 h2) hx (by decide)⟩
/-- one answer more -/
theorem PlI.grown (h : PlI w0 wb P Q G H sa sc S st lv vs R W) (hg : W.grownBy W' lv.ownBlock) {lv' v : Value} {r : Int × List Nat} (ho : W'.ownsRow (wb + 1) 35 2 lv' (R.length + 1) (flatR R vs ++ [.int .i64 r.1, v])) (hv : W.ownsRow (wb + 1) 5 1 v r.2.length (byV r.2)) (hw0 : w0.heap.size ≤ wb) (hrow : RowL W' sa sc S) :
    PlI w0 wb P Q G H sa sc S st lv' (vs ++ [v]) (R ++ [r]) W' := by
  have z := h.way.lt
  have hne : some wb ≠ lv.ownBlock := fun e => by have := (h.out.own.lt wb e.symm).1; omega
  have c : ∀ j, W'.cell? ⟨wb, j, none⟩ = W.cell? ⟨wb, j, none⟩ := fun j => cell_grown hg z hne
  have fz : ∀ j, W'.frozen? ⟨wb, j, none⟩ = W.frozen? ⟨wb, j, none⟩ := fun j => frozen_grown hg z hne
  obtain ⟨kv, x⟩ := h.way.way
  refine ⟨h.bel.grown hg h.bel.size (fun k hk => by have := (h.out.own.lt k hk).1; omega), ⟨⟨kv, (c 0).trans x.g0, (c 1).trans x.g1, (c 2).trans x.g2, (c 3).trans x.g3, (c 4).trans x.c4, (c 5).trans x.c5, own_grown x.own h.out.own (by decide) hg, (fz 5).trans x.f5, hrow⟩, (c 6).trans h.way.t6, (c 7).trans h.way.m7, fun j => (fz j).trans (h.way.fr j)⟩, ?_⟩
  refine ⟨by rw [flatR_snoc R vs r v h.out.len, List.length_append]; exact ho, by simp [h.out.len], fun j u q h1 h2 => ?_⟩
  by_cases hj : j < R.length
  · rw [List.getElem?_append_left (by rw [h.out.len]; exact hj)] at h1
    rw [List.getElem?_append_left hj] at h2
    exact own_grown (h.out.el j u q h1 h2) h.out.own (by decide) hg
  · have hj2 : j = R.length := by
      have := (List.getElem?_eq_some_iff.1 h2).1
      simp at this
      omega
    subst hj2
    rw [← h.out.len] at h1
    rw [List.getElem?_append_right (Nat.le_refl _)] at h1 h2
    simp at h1 h2
    subst h1 h2
    exact own_grown hv h.out.own (by decide) hg
end
end Go.Proofs.Ytkodhpjmmiapaaa

/- relay.Play. -/
namespace Go.Proofs.Ytkodhpjmmiapaaa
open Go.RowKit
set_option linter.unusedVariables false
set_option linter.unusedSimpArgs false
def offB (Q s : Int) : Bool := decide (s < 0) || decide (Q ≤ s)
theorem off_c (Q x : Int) (b : Nat) (W : World) (h : W.cell? ⟨b, 1, none⟩ = some (.int .i64 Q)) :
    Calls Try.prog 10 (#[.int .i64 x] ++ #[.pointer (some ⟨b, 0, none⟩)]) W fun e w' => e = .returned (.bool (offB Q x)) ∧ Below W.heap.size W w' := by
  rw [show #[Value.int .i64 x] ++ #[Value.pointer (some ⟨b, 0, none⟩)] = #[Value.int .i64 x, Value.pointer (some ⟨b, 0, none⟩)] from rfl]
  unfold offB
  go_enter Try.func10, Try.ntmps10
  by_cases h1 : x < 0
  · go_wp2
    go_ret
    exact ⟨by simp [h1], Below.refl _ _⟩
  · have d1 : decide (x < 0) = false := decide_eq_false h1
    by_cases h2 : Q ≤ x
    · go_wp2
      go_ret
      exact ⟨by simp [h1, h2], Below.refl _ _⟩
    · go_wp2
      go_ret
      exact ⟨by simp [h1, h2], Below.refl _ _⟩
set_option maxHeartbeats 1600000 in
theorem play_badg (P Q G H : Int) (sa : Option Addr) (sn sc : Nat) (ha : Option Addr) (hn hcap : Nat) (w : World) (x : Int) (hx : grpE P Q G H = x) (hx0 : ¬ x = 0) :
    Calls Try.prog 5 #[.agg #[.int .i64 P, .int .i64 Q, .int .i64 G, .int .i64 H], .slice sa sn sc, .slice ha hn hcap] w fun e w' => e = .returned (.tuple #[.slice none 0 0, .int .i64 x]) ∧ Below w.heap.size w w' := by
  have HC := Lib.hid fun w' => group_Check P Q G H w'
  rw [hx] at HC
  have x1 : (x == (0 : Int)) = false := by simpa using hx0
  have x2 : (x != (0 : Int)) = true := by simpa using hx0
  clear hx hx0
  go_enter Try.func5, Try.ntmps5
  go_wp2_with fail
  refine (HC.out _).mono ?_
  rintro e w1 ⟨rfl, hb1⟩
  have hb := below_two (alloc_below w _) hb1
  clear hb1
  go_wp2
  go_ret2
  exact ⟨rfl, hb⟩
set_option maxHeartbeats 1600000 in
theorem play_badn (P Q G H : Int) (sa : Option Addr) (sn sc : Nat) (ha : Option Addr) (hn hcap : Nat) (w : World) (hg : grpE P Q G H = 0) (hx : 3 < sn ∨ 100 < hn) :
    Calls Try.prog 5 #[.agg #[.int .i64 P, .int .i64 Q, .int .i64 G, .int .i64 H], .slice sa sn sc, .slice ha hn hcap] w fun e w' => e = .returned (.tuple #[.slice none 0 0, .int .i64 1]) ∧ Below w.heap.size w w' := by
  have HC := Lib.hid fun w' => group_Check P Q G H w'
  rw [hg] at HC
  clear hg
  by_cases h3 : 3 < sn
  · have d1 : decide ((3 : Int) < (sn : Int)) = true := decide_eq_true (by omega)
    clear hx
    go_enter Try.func5, Try.ntmps5
    go_wp2_with fail
    refine (HC.out _).mono ?_
    rintro e w1 ⟨rfl, hb1⟩
    have hb := below_two (alloc_below w _) hb1
    clear hb1
    go_wp2
    go_ret2
    exact ⟨rfl, hb⟩
  · have d1 : decide ((3 : Int) < (sn : Int)) = false := decide_eq_false (by omega)
    have d2 : decide ((100 : Int) < (hn : Int)) = true := decide_eq_true (by omega)
    clear hx
    go_enter Try.func5, Try.ntmps5
    go_wp2_with fail
    refine (HC.out _).mono ?_
    rintro e w1 ⟨rfl, hb1⟩
    have hb := below_two (alloc_below w _) hb1
    clear hb1
    go_wp2
    go_ret2
    exact ⟨rfl, hb⟩
set_option maxHeartbeats 1600000 in
theorem play_bads (P Q G H : Int) (sa : Option Addr) (sc : Nat) (S : List Int) (ha : Option Addr) (hn hcap : Nat) (w : World) (hg : grpE P Q G H = 0) (h3 : S.length ≤ 3) (h100 : hn ≤ 100) (hr : RowL w sa sc S) (hS : S.any (offB Q) = true) :
    Calls Try.prog 5 #[.agg #[.int .i64 P, .int .i64 Q, .int .i64 G, .int .i64 H], .slice sa S.length sc, .slice ha hn hcap] w fun e w' => e = .returned (.tuple #[.slice none 0 0, .int .i64 2]) ∧ Below w.heap.size w w' := by
  have HC := Lib.hid fun w' => group_Check P Q G H w'
  rw [hg] at HC
  have hmf : ∀ (fn : Fn) (first cap : Array Value) (w : World), (Instr.makeFunc fn first cap).run Try.prog w = .ok (.func fn first cap) w := fun _ _ _ _ => rfl
  have HCo := Lib.hid fun W (hb : Below w.heap.size w W) (b : Nat) (hbc : W.cell? ⟨b, 1, none⟩ = some (.int .i64 Q)) =>
    contains_longs 10 #[.pointer (some ⟨b, 0, none⟩)] (enters_of Try.func10 (by kernel_rfl) rfl) (offB Q) sa sc S W (hr.below hb (Nat.le_refl _)) (by omega)
      (fun W' x hb' _ => off_c Q x b W' ((hb'.cell (p := ⟨b, 1, none⟩) (World.block_lt_of_cell? W _ hbc)).trans hbc))
  rw [hS] at HCo
  obtain ⟨sn, hsn⟩ : ∃ sn, S.length = sn := ⟨_, rfl⟩
  rw [hsn] at HCo h3 ⊢
  have d1 : decide ((3 : Int) < (sn : Int)) = false := decide_eq_false (by omega)
  have d2 : decide ((100 : Int) < (hn : Int)) = false := decide_eq_false (by omega)
  clear hg hS hr hsn
  go_enter Try.func5, Try.ntmps5
  go_wp2_with fail
  refine (HC.out _).mono ?_
  rintro e w1 ⟨rfl, hb1⟩
  have hb := below_two (alloc_below w _) hb1
  have q1 := kept hb1 (b := w.heap.size) (o := 1) (v := .int .i64 Q) (by simp [go_sem]) (by simp)
  clear hb1
  go_wp2_with fail
  refine (HCo.out _ hb _ q1).mono ?_
  rintro e w2 ⟨rfl, hb2⟩
  have hb3 := below_two hb hb2
  clear hb hb2 q1
  go_wp2
  go_ret2
  exact ⟨rfl, hb3⟩
end Go.Proofs.Ytkodhpjmmiapaaa

/- relay.Play where all is good. -/
namespace Go.Proofs.Ytkodhpjmmiapaaa
open Go.RowKit
set_option linter.unusedVariables false
set_option linter.unusedSimpArgs false
theorem hopped_info : (Try.prog.info? 35).map (fun i => (i.zero, i.size, i.bytes)) = some (some (.agg #[.int .i64 0, .slice none 0 0]), 2, 32) := by kernel_rfl
theorem cell_twoB (w : World) (x y : Value) (t : TypeId) (b : Nat) (hb : b = w.heap.size) : ∀ (j : Nat) (u : Value), [x, y][j]? = some u → (w.alloc (.cells #[x, y] t)).cell? ((⟨b, 0, none⟩ : Addr).add j) = some u := by
  subst hb
  intro j u h
  have hn := World.alloc_heap_new w (.cells #[x, y] t)
  match j, h with
  | 0, h => rw [show (⟨w.heap.size, 0, none⟩ : Addr).add 0 = ⟨w.heap.size, 0, none⟩ from rfl]; simp only [World.cell?]; rw [hn]; simpa using h
  | 1, h => rw [show (⟨w.heap.size, 0, none⟩ : Addr).add 1 = ⟨w.heap.size, 1, none⟩ from rfl]; simp only [World.cell?]; rw [hn]; simpa using h
theorem way_start (w2 : World) (P Q G H : Int) (sa : Option Addr) (sc : Nat) (S : List Int) (w : World) (hb : Below w.heap.size w w2) (hr : RowL w sa sc S) :
    PlI w w2.heap.size P Q G H sa sc S st0 (.slice none 0 0) [] [] (w2.alloc (.cells #[.int .i64 P, .int .i64 Q, .int .i64 G, .int .i64 H, .slice sa S.length sc, .slice none 0 0, .int .i64 0, .int .i64 0] 44)) := by
  refine ⟨hb.alloc hb.size _, ⟨⟨.slice none 0 0, by simp [go_sem], by simp [go_sem], by simp [go_sem], by simp [go_sem], by simp [go_sem], by simp [go_sem], World.ownsRow_nil _ _ _ _, by simp [go_sem], hr.below (hb.alloc hb.size _) (Nat.le_refl _)⟩, by simp [go_sem, st0], by simp [go_sem, st0], fun j => by simp [go_sem]⟩, HopsAt.nil _ _⟩
/-- between the call and the append -/
theorem play_mid {w W2 w3 : World} {wb : Nat} {P Q G H : Int} {sa : Option Addr} {sc : Nat} {S : List Int} {st st' : St} {lv v : Value} {vs : List Value} {R : List (Int × List Nat)} {xb : Nat} {c : Int} {bd : List Nat}
    (h : PlI w wb P Q G H sa sc S st lv vs R W2) (hw : WayS w3 wb P Q G H sa sc S st') (hk : Kp wb W2 w3) (hv : w3.ownsRow W2.heap.size 5 1 v bd.length (byV bd)) (hxb : wb < xb) (hxw : xb < W2.heap.size) (hw0 : w.heap.size ≤ wb)
    (hx : W2.heap[xb]? = some (.cells #[.int .i64 6, .slice none 0 0] 35 (0, 0))) (hl : ∀ k, lv.ownBlock = some k → k ≠ xb) (hr : RowL w sa sc S) :
    PlI w wb P Q G H sa sc S st' lv vs R ((w3.setCell ⟨xb, 1, none⟩ v).setCell ⟨xb, 0, none⟩ (.int .i64 c)) ∧ ((w3.setCell ⟨xb, 1, none⟩ v).setCell ⟨xb, 0, none⟩ (.int .i64 c)).ownsRow (wb + 1) 5 1 v bd.length (byV bd) ∧
      ((w3.setCell ⟨xb, 1, none⟩ v).setCell ⟨xb, 0, none⟩ (.int .i64 c)).cell? ⟨xb, 0, none⟩ = some (.int .i64 c) ∧ ((w3.setCell ⟨xb, 1, none⟩ v).setCell ⟨xb, 0, none⟩ (.int .i64 c)).cell? ⟨xb, 1, none⟩ = some v ∧
      w3.cell? ⟨xb, 0, none⟩ = some (.int .i64 6) ∧ w3.cell? ⟨xb, 1, none⟩ = some (.slice none 0 0) ∧ w3.frozen? ⟨xb, 0, none⟩ = false ∧ w3.frozen? ⟨xb, 1, none⟩ = false := by
  have hx3 := hk.blk xb _ _ (by omega) (by decide) hx
  have p3 : PlI w wb P Q G H sa sc S st' lv vs R w3 := ⟨h.bel.trans (hk.bel.mono hw0), hw, h.out.kp hk (by omega)⟩
  have hrw : ∀ W', Below w.heap.size w W' → RowL W' sa sc S := fun W' hb => hr.below hb (Nat.le_refl _)
  have b4 : Below w.heap.size w (w3.setCell ⟨xb, 1, none⟩ v) := p3.bel.setCell (p := ⟨xb, 1, none⟩) (by show w.heap.size ≤ xb; omega) v
  have p4 := p3.past (o := 1) (u := v) hxb (by omega) hx3 hl (hrw _ b4)
  have hx4 : (w3.setCell ⟨xb, 1, none⟩ v).heap[xb]? = some (.cells #[.int .i64 6, v] 35 (0, 0)) := by
    simp [World.setCell, Array.getElem?_modify, hx3]
  have b5 : Below w.heap.size w ((w3.setCell ⟨xb, 1, none⟩ v).setCell ⟨xb, 0, none⟩ (.int .i64 c)) := b4.setCell (p := ⟨xb, 0, none⟩) (by show w.heap.size ≤ xb; omega) _
  have p5 := p4.past (o := 0) (u := .int .i64 c) hxb (by omega) hx4 hl (hrw _ b5)
  have hv5 := own_other (o := 0) (u := .int .i64 c) (own_other (o := 1) (u := v) hv hx3 (by decide)) hx4 (by decide)
  have hsz : wb + 1 ≤ W2.heap.size := by omega
  refine ⟨p5, own_lower' hv5 hsz, World.cell?_setCell_same' _ _ _ (by simp [World.cell?, hx4]), ?_, ?_, ?_, ?_, ?_⟩
  · rw [sset_other (by decide)]; simp [World.cell?, hx4]
  · simp [World.cell?, hx3]
  · simp [World.cell?, hx3]
  · simp [World.frozen?, hx3]
  · simp [World.frozen?, hx3]
set_option maxRecDepth 100000 in
set_option maxHeartbeats 3200000 in
theorem play_good (P Q G H : Int) (sa : Option Addr) (sc : Nat) (S : List Int) (ha : Option Addr) (hcap : Nat) (R : Nat → Option Addr × Nat) (L : List Hp) (w : World) (hg : grpE P Q G H = 0) (h3 : S.length ≤ 3) (h100 : L.length ≤ 100) (hr : RowL w sa sc S) (hS : S.any (offB Q) = false) (hL : RowHop w ha R L) :
    Calls Try.prog 5 #[.agg #[.int .i64 P, .int .i64 Q, .int .i64 G, .int .i64 H], .slice sa S.length sc, .slice ha L.length hcap] w fun e w' => ∃ lv vs, e = .returned (.tuple #[lv, .int .i64 0]) ∧ HopsAt w' w.heap.size lv vs (runF P Q G S st0 L).1 ∧ Below w.heap.size w w' := by
  obtain ⟨i0, hi, hz0, hz1, hz2⟩ := info_parts hopped_info
  have hu : Try.prog.underlying 26 = some (.slice 35) := by kernel_rfl
  have HC := Lib.hid fun w' => group_Check P Q G H w'
  rw [hg] at HC
  have hmf : ∀ (fn : Fn) (first cap : Array Value) (w : World), (Instr.makeFunc fn first cap).run Try.prog w = .ok (.func fn first cap) w := fun _ _ _ _ => rfl
  have HCo := Lib.hid fun W (hb : Below w.heap.size w W) (b : Nat) (hbc : W.cell? ⟨b, 1, none⟩ = some (.int .i64 Q)) =>
    contains_longs 10 #[.pointer (some ⟨b, 0, none⟩)] (enters_of Try.func10 (by kernel_rfl) rfl) (offB Q) sa sc S W (hr.below hb (Nat.le_refl _)) (by omega)
      (fun W' x hb' _ => off_c Q x b W' ((hb'.cell (p := ⟨b, 1, none⟩) (World.block_lt_of_cell? W _ hbc)).trans hbc))
  rw [hS] at HCo
  have HSin : Hid (∀ s ∈ S, 0 ≤ s ∧ s < Q) := Lib.hid fun s hs => by
    have h1 := List.any_eq_false.1 hS s hs
    simp [offB] at h1
    omega
  have HWst := Lib.hid fun w2 hb => way_start w2 P Q G H sa sc S w hb hr
  have HGrp := Lib.hid hg
  have HRow := Lib.hid hr
  have HLr := Lib.hid hL
  have HS3 := Lib.hid h3
  obtain ⟨sn, hsn⟩ : ∃ sn, S.length = sn := ⟨_, rfl⟩
  rw [hsn] at HCo HWst h3 ⊢
  obtain ⟨N, hN⟩ : ∃ N, L.length = N := ⟨_, rfl⟩
  rw [hN] at h100 ⊢
  have HN := Lib.hid hN
  have d1 : decide ((3 : Int) < (sn : Int)) = false := decide_eq_false (by omega)
  have d2 : decide ((100 : Int) < (N : Int)) = false := decide_eq_false (by omega)
  clear hg hS hr hsn hL hN
  go_enter Try.func5, Try.ntmps5
  go_wp2_with fail
  refine (HC.out _).mono ?_
  rintro e w1 ⟨rfl, hb1⟩
  have hb := below_two (alloc_below w _) hb1
  have q0 := kept hb1 (b := w.heap.size) (o := 0) (v := .int .i64 P) (by simp [go_sem]) (by simp)
  have q1 := kept hb1 (b := w.heap.size) (o := 1) (v := .int .i64 Q) (by simp [go_sem]) (by simp)
  have q2 := kept hb1 (b := w.heap.size) (o := 2) (v := .int .i64 G) (by simp [go_sem]) (by simp)
  have q3 := kept hb1 (b := w.heap.size) (o := 3) (v := .int .i64 H) (by simp [go_sem]) (by simp)
  have zg : w.heap.size < w1.heap.size := World.block_lt_of_cell? _ _ q0
  clear hb1
  go_wp2_with fail
  refine (HCo.out _ hb _ q1).mono ?_
  rintro e w2 ⟨rfl, hb2⟩
  have hb3 := below_two hb hb2
  replace q0 := kept hb2 q0 zg
  replace q1 := kept hb2 q1 zg
  replace q2 := kept hb2 q2 zg
  replace q3 := kept hb2 q3 zg
  have hSt := HWst.out w2 hb3
  have hw0 : w.heap.size ≤ w2.heap.size := hb3.size
  clear hb hb2 zg hb3
  go_wp2_with fail
  obtain ⟨wb, hwb⟩ : ∃ b, w2.heap.size = b := ⟨_, rfl⟩
  rw [hwb] at hSt hw0 ⊢
  obtain ⟨W3, hW3⟩ : ∃ W, (w2.alloc (.cells #[.int .i64 P, .int .i64 Q, .int .i64 G, .int .i64 H, .slice sa sn sc, .slice none 0 0, .int .i64 0, .int .i64 0] 44)) = W := ⟨_, rfl⟩
  rw [hW3] at hSt ⊢
  have HSt := Lib.hid hSt
  clear hSt hW3 q0 q1 q2 q3 hwb
  go_loopw [10, 36] (fun lv i wr => ∃ (I : Nat) (vs : List Value), i = .int .i64 (I : Int) ∧ I ≤ N ∧ PlI w wb P Q G H sa sc S (runF P Q G S st0 (L.take I)).2 lv vs (runF P Q G S st0 (L.take I)).1 wr) (fun _ i _ => N - (intOf i).toNat)
  case atStart => exact ⟨0, [], rfl, Nat.zero_le _, by rw [List.take_zero]; exact HSt.out⟩
  case round =>
    obtain ⟨I, vs, rfl, hIN, hP⟩ := hrel
    by_cases hlt : I < N
    · obtain ⟨x, hx⟩ : ∃ x, L[I]? = some x := ⟨_, List.getElem?_eq_getElem (by rw [HN.out]; exact hlt)⟩
      have hok := runF_ok (P := P) (Q := Q) (G := G) (L.take I) st0 0 (st0_ok S)
      have htl : (L.take I).length = I := by rw [List.length_take, HN.out]; omega
      have HTk := Lib.hid (runF_take (P := P) (Q := Q) (G := G) (S := S) st0 hx)
      obtain ⟨st, hst⟩ : ∃ s, (runF P Q G S st0 (L.take I)).2 = s := ⟨_, rfl⟩
      obtain ⟨Rr, hRr⟩ : ∃ s, (runF P Q G S st0 (L.take I)).1 = s := ⟨_, rfl⟩
      have hRl : Rr.length = I := by rw [← hRr, runF_len]; exact htl
      rw [hst, hRr] at hP HTk
      rw [hst, htl, Nat.zero_add] at hok
      obtain ⟨b, o, rfl, hcs⟩ := (HLr.out.below hP.bel (Nat.le_refl _)).shape (by rw [HN.out]; omega)
      obtain ⟨k0, k1, k2, k3, k4, k5, k6⟩ := hcs I x hx
      have hrow := HLr.out.row I x hx
      have hu8 := HLr.out.u8 x (List.mem_of_getElem? hx)
      obtain ⟨rr, hrr⟩ : ∃ r, R I = r := ⟨_, rfl⟩
      obtain ⟨ra, rc⟩ := rr
      rw [hrr] at k3 hrow
      simp only at k3 hrow
      obtain ⟨BL, eL⟩ : ∃ q, x.body.length = q := ⟨_, rfl⟩
      obtain ⟨kd, e0⟩ : ∃ q, x.kind = q := ⟨_, rfl⟩
      obtain ⟨x1, e1⟩ : ∃ q, x.k = q := ⟨_, rfl⟩
      obtain ⟨x2, e2⟩ : ∃ q, x.l = q := ⟨_, rfl⟩
      obtain ⟨x4, e4⟩ : ∃ q, x.link = q := ⟨_, rfl⟩
      obtain ⟨x5, e5⟩ : ∃ q, x.at' = q := ⟨_, rfl⟩
      obtain ⟨x6, e6⟩ : ∃ q, x.turn = q := ⟨_, rfl⟩
      have hhc : hopC x ra rc = #[.int .i64 kd, .int .i64 x1, .int .i64 x2, .slice ra BL rc, .int .i64 x4, .int .i64 x5, .int .u8 (x6 : Int)] := by unfold hopC; rw [e0, e1, e2, e4, e5, e6, eL]
      rw [e0] at k0
      rw [e1] at k1
      rw [e2] at k2
      rw [eL] at k3
      rw [e4] at k4
      rw [e5] at k5
      rw [e6] at k6
      have hP2 := hP.below (((Below.refl _ wr).alloc (Nat.le_refl _) (.cells #[.int .i64 kd, .int .i64 x1, .int .i64 x2, .slice ra BL rc, .int .i64 x4, .int .i64 x5, .int .u8 (x6 : Int)] 33)).alloc (by simp) (.cells #[.int .i64 6, .slice none 0 0] 35))
      have hrow2 := hrow.below hP2.bel (Nat.le_refl _)
      have hsec : ∀ W', Below wb ((wr.alloc (.cells #[.int .i64 kd, .int .i64 x1, .int .i64 x2, .slice ra BL rc, .int .i64 x4, .int .i64 x5, .int .u8 (x6 : Int)] 33)).alloc (.cells #[.int .i64 6, .slice none 0 0] 35)) W' → RowL W' sa sc S := fun W' hb => HRow.out.below (hP2.bel.trans (hb.mono hw0)) (Nat.le_refl _)
      have hxb : ((wr.alloc (.cells #[.int .i64 kd, .int .i64 x1, .int .i64 x2, .slice ra BL rc, .int .i64 x4, .int .i64 x5, .int .u8 (x6 : Int)] 33)).alloc (.cells #[.int .i64 6, .slice none 0 0] 35)).heap[wr.heap.size + 1]? = some (.cells #[.int .i64 6, .slice none 0 0] 35) := by
        have := World.alloc_heap_new (wr.alloc (.cells #[.int .i64 kd, .int .i64 x1, .int .i64 x2, .slice ra BL rc, .int .i64 x4, .int .i64 x5, .int .u8 (x6 : Int)] 33)) (.cells #[.int .i64 6, .slice none 0 0] 35)
        rwa [World.size_alloc] at this
      have hl : ∀ k, u10.ownBlock = some k → k ≠ wr.heap.size + 1 := fun k hk => by have := (hP.out.own.lt k hk).2; omega
      have zwb := hP.way.lt
      have zwx : wb < wr.heap.size + 1 := by omega
      have zxx : wr.heap.size + 1 < ((wr.alloc (.cells #[.int .i64 kd, .int .i64 x1, .int .i64 x2, .slice ra BL rc, .int .i64 x4, .int .i64 x5, .int .u8 (x6 : Int)] 33)).alloc (.cells #[.int .i64 6, .slice none 0 0] 35)).heap.size := by simp
      obtain ⟨ff, hff⟩ : ∃ f, hopF P Q G S st x = f := ⟨_, rfl⟩
      obtain ⟨st', c, bd⟩ := ff
      rw [hff] at HTk
      have HFF := Lib.hid hff
      have HE0 := Lib.hid e0
      have HP2 := Lib.hid hP2
      have HSec := Lib.hid hsec
      have HXB := Lib.hid hxb
      have HL2 := Lib.hid hl
      have HOk := Lib.hid hok
      have HHc := Lib.hid hhc
      have HR2 := Lib.hid hrow2
      have HU8 := Lib.hid hu8
      have HE1 := Lib.hid e1
      have HE2 := Lib.hid e2
      have hI101 : I ≤ 100 := by omega
      have hlI : (I : Int) < (N : Int) := by omega
      clear hff e0 e1 e2 e4 e5 e6 eL hP2 hsec hxb hl hok hhc hrow hrow2 hu8 hrr hcs hst hRr htl hP hx hIN hlt
      by_cases hk1 : kd = 1
      · have hkd : kd = 1 := hk1
        subst hkd
        have hF : extF P Q G S st x.k x.l = (st', c, bd) := by rw [← HFF.out]; unfold hopF; rw [HE0.out]; rfl
        have hcall := hop_extend HP2.out.way HSec.out HGrp.out HSin.out HS3.out HOk.out.len x.k x.l
        rw [hF] at hcall
        rw [HE1.out, HE2.out] at hcall
        have HCall := Lib.hid hcall
        clear hF hcall
        go_wp2_with fail
        refine HCall.out.mono ?_
        rintro e w3 ⟨v, rfl, hv, hw3, hk3⟩
        simp only at hv hw3
        obtain ⟨va, vc, rfl, _⟩ := own_any hv
        obtain ⟨p5, hv5, y0, y1, z0, z1, f0, f1⟩ := play_mid (c := c) HP2.out hw3 hk3 hv zwx zxx hw0 HXB.out HL2.out HRow.out
        have own5 := p5.out.own
        have z3 := hw3.lt
        have HP5 := Lib.hid p5
        have HV5 := Lib.hid hv5
        simp only
        clear p5 hv5 hv hw3 hk3 HCall
        go_wp2_with (first | (at_builtin; refine wpList_append_own _ rfl _ _ 26 rfl (wb + 1) 35 i0 (.agg #[.int .i64 0, .slice none 0 0]) 2 32 hu hi hz0 hz1 hz2 rfl (by decide) _ _ _ rfl (own5.alloc _) ⟨w3.heap.size, 0, none⟩ 1 1 [.int .i64 c, .slice va bd.length vc] rfl rfl (cell_twoB _ _ _ _ _ (by simp)) (by simp [Value.oneCell']) (by unfold maxLen; omega) (by omega) (by simp; omega) ?_; intro v' w5 hown5 hg5 hnil5))
        have HP6 := HP5.out.below (alloc_below _ (.cells #[.int .i64 c, .slice va bd.length vc] 35))
        have hb6 : Below w.heap.size w w5 := HP6.bel.grown hg5 HP6.bel.size (fun k hk => by have := (HP6.out.own.lt k hk).1; omega)
        have HP7 := Lib.hid (HP6.grown (r := (c, bd)) hg5 hown5 (HV5.out.alloc _) hw0 (HRow.out.below hb6 (Nat.le_refl _)))
        clear HP6 hb6 hown5 hg5 hnil5 own5
        go_round
        case rel => exact ⟨I + 1, vs ++ [.slice va bd.length vc], by go_num, by omega, by rw [HTk.out]; exact HP7.out⟩
        case measure => simp [intOf]; omega
      by_cases hk2 : kd = 2
      · have hkd : kd = 2 := hk2
        subst hkd
        have hF : sndF st x = (st', c, bd) := by rw [← HFF.out]; unfold hopF; rw [HE0.out]; rfl
        have hcall := hop_send HP2.out.way HSec.out (Nat.le_trans HOk.out.len HS3.out) HOk.out.k16 (by have := HOk.out.th; omega) x ra rc HR2.out HU8.out.2 HU8.out.1
        rw [hF] at hcall
        rw [HHc.out] at hcall
        have HCall := Lib.hid hcall
        clear hF hcall
        go_wp2_with fail
        refine HCall.out.mono ?_
        rintro e w3 ⟨v, rfl, hv, hw3, hk3⟩
        simp only at hv hw3
        obtain ⟨va, vc, rfl, _⟩ := own_any hv
        obtain ⟨p5, hv5, y0, y1, z0, z1, f0, f1⟩ := play_mid (c := c) HP2.out hw3 hk3 hv zwx zxx hw0 HXB.out HL2.out HRow.out
        have own5 := p5.out.own
        have z3 := hw3.lt
        have HP5 := Lib.hid p5
        have HV5 := Lib.hid hv5
        simp only
        clear p5 hv5 hv hw3 hk3 HCall
        go_wp2_with (first | (at_builtin; refine wpList_append_own _ rfl _ _ 26 rfl (wb + 1) 35 i0 (.agg #[.int .i64 0, .slice none 0 0]) 2 32 hu hi hz0 hz1 hz2 rfl (by decide) _ _ _ rfl (own5.alloc _) ⟨w3.heap.size, 0, none⟩ 1 1 [.int .i64 c, .slice va bd.length vc] rfl rfl (cell_twoB _ _ _ _ _ (by simp)) (by simp [Value.oneCell']) (by unfold maxLen; omega) (by omega) (by simp; omega) ?_; intro v' w5 hown5 hg5 hnil5))
        have HP6 := HP5.out.below (alloc_below _ (.cells #[.int .i64 c, .slice va bd.length vc] 35))
        have hb6 : Below w.heap.size w w5 := HP6.bel.grown hg5 HP6.bel.size (fun k hk => by have := (HP6.out.own.lt k hk).1; omega)
        have HP7 := Lib.hid (HP6.grown (r := (c, bd)) hg5 hown5 (HV5.out.alloc _) hw0 (HRow.out.below hb6 (Nat.le_refl _)))
        clear HP6 hb6 hown5 hg5 hnil5 own5
        go_round
        case rel => exact ⟨I + 1, vs ++ [.slice va bd.length vc], by go_num, by omega, by rw [HTk.out]; exact HP7.out⟩
        case measure => simp [intOf]; omega
      by_cases hk3 : kd = 3
      · have hkd : kd = 3 := hk3
        subst hkd
        have hF : backF' st x = (st', c, bd) := by rw [← HFF.out]; unfold hopF; rw [HE0.out]; rfl
        have hcall := hop_answer HP2.out.way HSec.out (Nat.le_trans HOk.out.len HS3.out) HOk.out.k16 (by have := HOk.out.hm; omega) x ra rc HR2.out HU8.out.2 HU8.out.1
        rw [hF] at hcall
        rw [HHc.out] at hcall
        have HCall := Lib.hid hcall
        clear hF hcall
        go_wp2_with fail
        refine HCall.out.mono ?_
        rintro e w3 ⟨v, rfl, hv, hw3, hk3⟩
        simp only at hv hw3
        obtain ⟨va, vc, rfl, _⟩ := own_any hv
        obtain ⟨p5, hv5, y0, y1, z0, z1, f0, f1⟩ := play_mid (c := c) HP2.out hw3 hk3 hv zwx zxx hw0 HXB.out HL2.out HRow.out
        have own5 := p5.out.own
        have z3 := hw3.lt
        have HP5 := Lib.hid p5
        have HV5 := Lib.hid hv5
        simp only
        clear p5 hv5 hv hw3 hk3 HCall
        go_wp2_with (first | (at_builtin; refine wpList_append_own _ rfl _ _ 26 rfl (wb + 1) 35 i0 (.agg #[.int .i64 0, .slice none 0 0]) 2 32 hu hi hz0 hz1 hz2 rfl (by decide) _ _ _ rfl (own5.alloc _) ⟨w3.heap.size, 0, none⟩ 1 1 [.int .i64 c, .slice va bd.length vc] rfl rfl (cell_twoB _ _ _ _ _ (by simp)) (by simp [Value.oneCell']) (by unfold maxLen; omega) (by omega) (by simp; omega) ?_; intro v' w5 hown5 hg5 hnil5))
        have HP6 := HP5.out.below (alloc_below _ (.cells #[.int .i64 c, .slice va bd.length vc] 35))
        have hb6 : Below w.heap.size w w5 := HP6.bel.grown hg5 HP6.bel.size (fun k hk => by have := (HP6.out.own.lt k hk).1; omega)
        have HP7 := Lib.hid (HP6.grown (r := (c, bd)) hg5 hown5 (HV5.out.alloc _) hw0 (HRow.out.below hb6 (Nat.le_refl _)))
        clear HP6 hb6 hown5 hg5 hnil5 own5
        go_round
        case rel => exact ⟨I + 1, vs ++ [.slice va bd.length vc], by go_num, by omega, by rw [HTk.out]; exact HP7.out⟩
        case measure => simp [intOf]; omega
      have q1 : (kd == (1 : Int)) = false := by simpa using hk1
      have q2 : (kd == (2 : Int)) = false := by simpa using hk2
      have q3 : (kd == (3 : Int)) = false := by simpa using hk3
      · have hF : (st, (6 : Int), ([] : List Nat)) = (st', c, bd) := by rw [← HFF.out]; unfold hopF; rw [HE0.out, if_neg hk1, if_neg hk2, if_neg hk3]
        cases hF
        have own5 := HP2.out.out.own
        have HP5 := HP2
        have HV5 := Lib.hid (readN_nil_own ((wr.alloc (.cells #[.int .i64 kd, .int .i64 x1, .int .i64 x2, .slice ra BL rc, .int .i64 x4, .int .i64 x5, .int .u8 (x6 : Int)] 33)).alloc (.cells #[.int .i64 6, .slice none 0 0] 35)) (wb + 1))
        clear hk1 hk2 hk3
        go_wp2_with (first | (at_builtin; refine wpList_append_own _ rfl _ _ 26 rfl (wb + 1) 35 i0 (.agg #[.int .i64 0, .slice none 0 0]) 2 32 hu hi hz0 hz1 hz2 rfl (by decide) _ _ _ rfl (own5.alloc _) ⟨wr.heap.size + 1 + 1, 0, none⟩ 1 1 [.int .i64 6, .slice none 0 0] rfl rfl (cell_twoB _ _ _ _ _ (by simp)) (by simp [Value.oneCell']) (by unfold maxLen; omega) (by omega) (by simp; omega) ?_; intro v' w5 hown5 hg5 hnil5))
        have HP6 := HP5.out.below (alloc_below _ (.cells #[.int .i64 6, .slice none 0 0] 35))
        have hb6 : Below w.heap.size w w5 := HP6.bel.grown hg5 HP6.bel.size (fun k hk => by have := (HP6.out.own.lt k hk).1; omega)
        have HP7 := Lib.hid (HP6.grown (r := (6, [])) hg5 hown5 (HV5.out.alloc _) hw0 (HRow.out.below hb6 (Nat.le_refl _)))
        clear HP6 hb6 hown5 hg5 hnil5 own5
        go_round
        case rel => exact ⟨I + 1, vs ++ [.slice none 0 0], by go_num, by omega, by rw [HTk.out]; exact HP7.out⟩
        case measure => simp [intOf]; omega
    · obtain rfl : I = N := by omega
      have ht : L.take I = L := List.take_of_length_le (by rw [HN.out]; exact Nat.le_refl _)
      rw [ht] at hP
      have hlI : ¬ (I : Int) < (I : Int) := by omega
      have HP := Lib.hid hP
      clear hP ht hIN hlt
      go_wp2
      refine bodyPost_ret (v := .tuple #[u10, .int .i64 0]) ?_ rfl ?_
      · simp [results, Try.f5, go_sem]
      · exact ⟨u10, rfl, ⟨vs, HP.out.out.lower (Nat.le_trans hw0 (Nat.le_succ _))⟩, HP.out.bel⟩
end Go.Proofs.Ytkodhpjmmiapaaa

/- relay.Play, whatever comes in; the reference's Hops at equal lists; may. -/
namespace Go.Proofs.Ytkodhpjmmiapaaa
open Go.RowKit
set_option linter.unusedVariables false
set_option linter.unusedSimpArgs false
def Good (P Q G H : Int) (S : List Int) (n : Nat) : Prop := grpE P Q G H = 0 ∧ S.length ≤ 3 ∧ n ≤ 100 ∧ S.any (offB Q) = false
theorem play_any (P Q G H : Int) (sa : Option Addr) (sc : Nat) (S : List Int) (ha : Option Addr) (hcap : Nat) (R : Nat → Option Addr × Nat) (L : List Hp) (w : World) (hr : RowL w sa sc S) (hL : RowHop w ha R L) :
    Calls Try.prog 5 #[.agg #[.int .i64 P, .int .i64 Q, .int .i64 G, .int .i64 H], .slice sa S.length sc, .slice ha L.length hcap] w fun e w' => ∃ (lv : Value) (c : Int), e = .returned (.tuple #[lv, .int .i64 c]) ∧ Below w.heap.size w w' ∧
      (Good P Q G H S L.length → c = 0 ∧ ∃ vs, HopsAt w' w.heap.size lv vs (runF P Q G S st0 L).1) ∧ (¬ Good P Q G H S L.length → ¬ c = 0 ∧ lv = .slice none 0 0) := by
  by_cases hg : grpE P Q G H = 0
  · by_cases hn : 3 < S.length ∨ 100 < L.length
    · refine (play_badn P Q G H sa S.length sc ha L.length hcap w hg hn).mono ?_
      rintro e w' ⟨rfl, hb⟩
      exact ⟨_, 1, rfl, hb, fun h => absurd h.2.2.1 (by have := h.2.1; omega), fun _ => ⟨by decide, rfl⟩⟩
    · cases hs : S.any (offB Q) with
      | true =>
        refine (play_bads P Q G H sa sc S ha L.length hcap w hg (by omega) (by omega) hr hs).mono ?_
        rintro e w' ⟨rfl, hb⟩
        exact ⟨_, 2, rfl, hb, fun h => by (have := h.2.2.2; rw [hs] at this; cases this), fun _ => ⟨by decide, rfl⟩⟩
      | false =>
        refine (play_good P Q G H sa sc S ha hcap R L w hg (by omega) (by omega) hr hs hL).mono ?_
        rintro e w' ⟨lv, vs, rfl, ho, hb⟩
        exact ⟨lv, 0, rfl, hb, fun _ => ⟨rfl, vs, ho⟩, fun h => absurd ⟨hg, by omega, by omega, hs⟩ h⟩
  · refine (play_badg P Q G H sa S.length sc ha L.length hcap w _ rfl hg).mono ?_
    rintro e w' ⟨rfl, hb⟩
    exact ⟨_, _, rfl, hb, fun h => absurd h.1 hg, fun _ => ⟨hg, rfl⟩⟩
/-- what a row of answers holds, for one who only reads -/
def HopV (W : World) (a : Option Addr) (R : List (Int × List Nat)) : Prop :=
  ∀ (i : Nat) (r : Int × List Nat), R[i]? = some r → ∃ g ua uc, a = some ⟨g, 0, none⟩ ∧ W.cell? ⟨g, i * 2, none⟩ = some (.int .i64 r.1) ∧ W.cell? ⟨g, i * 2 + 1, none⟩ = some (.slice ua r.2.length uc) ∧ RowB W ua uc r.2
theorem HopV.below {W W' : World} {a : Option Addr} {R : List (Int × List Nat)} (h : HopV W a R) (hb : Below W.heap.size W W') : HopV W' a R := fun i r hr => by
  obtain ⟨g, ua, uc, e, c0, c1, hrow⟩ := h i r hr
  have z := World.block_lt_of_cell? W _ c0
  exact ⟨g, ua, uc, e, kept hb c0 z, kept hb c1 z, hrow.below hb (Nat.le_refl _)⟩
theorem HopV.take {W : World} {a : Option Addr} {R : List (Int × List Nat)} (h : HopV W a R) (k : Nat) : HopV W a (R.take k) := fun i r hr => by
  rw [List.getElem?_take] at hr
  split at hr
  · exact h i r hr
  · cases hr
theorem HopsAt.view {W : World} {B : Nat} {lv : Value} {vs : List Value} {R : List (Int × List Nat)} (h : HopsAt W B lv vs R) : ∃ a c, lv = .slice a R.length c ∧ R.length ≤ c ∧ c ≤ maxLen ∧ HopV W a R := by
  rcases h.own.2 with ⟨h1, h2⟩ | ⟨g, cap, cur, h1, h2, h3, h4, h5, h6, h7⟩
  · have : R = [] := List.eq_nil_of_length_eq_zero h2
    subst this
    exact ⟨none, 0, h1, Nat.le_refl _, Nat.zero_le _, fun i r hr => by simp at hr⟩
  · refine ⟨_, cap, h1, h4, h5, fun i r hr => ?_⟩
    have hi : i < R.length := (List.getElem?_eq_some_iff.1 hr).1
    obtain ⟨u, hu⟩ : ∃ u, vs[i]? = some u := ⟨_, List.getElem?_eq_getElem (by rw [h.len]; exact hi)⟩
    obtain ⟨f0, f1⟩ := flatR_at R vs i r u hr hu
    have cell : ∀ j x, (flatR R vs)[j]? = some x → W.cell? ⟨g, j, none⟩ = some x := fun j x hx => by
      rw [← h7, List.getElem?_take] at hx
      split at hx
      · simp [World.cell?, h3]
        simpa using hx
      · cases hx
    obtain ⟨ua, uc, rfl, hrow, _⟩ := own_rowB (h.el i u r hu hr)
    exact ⟨g, ua, uc, rfl, cell _ _ f0, cell _ _ f1, hrow⟩
/-- what every answer is -/
def Small (r : Int × List Nat) : Prop := r.2.length ≤ 17 ∧ ∀ x ∈ r.2, x < 256
theorem cl_back (cnt : Nat) : ∀ (ks s : List Nat), Cl s → Cl (backF cnt ks s)
  | [], s, h => h
  | k :: ks, s, h => (cl_back cnt ks s h).lay k cnt
theorem cl_there {h : Hp} (ht : h.turn < 256) (cnt : Nat) : ∀ (ks : List Nat) (i : Nat) (s : List Nat), Cl s → Cl (thereF h cnt i ks s)
  | [], i, s, hs => hs
  | k :: ks, i, s, hs => cl_there ht cnt ks (i + 1) _ ((hs.pass ht i).lay k cnt)
theorem cl_home {h : Hp} (ht : h.turn < 256) (cnt : Nat) : ∀ (ks : List Nat) (i : Nat) (s : List Nat), Cl s → Cl (homeF h cnt i ks s)
  | [], i, s, hs => hs
  | k :: ks, i, s, hs => ((cl_home ht cnt ks (i + 1) s hs).lay k cnt).pass ht i
theorem cl_off (cnt : Nat) : ∀ (ks s : List Nat), Cl s → Cl (offF cnt ks s)
  | [], s, h => h
  | k :: ks, s, h => cl_off cnt ks _ (h.lay k cnt)
end Go.Proofs.Ytkodhpjmmiapaaa

/- What answers are; the reference's Hops at equal lists. -/
namespace Go.Proofs.Ytkodhpjmmiapaaa
open Go.RowKit
set_option linter.unusedVariables false
set_option linter.unusedSimpArgs false
theorem small_nil (c : Int) : Small (c, []) := ⟨Nat.zero_le _, fun x hx => by simp at hx⟩
theorem small_read {k n : Nat} {xs : List Nat} (h : Cl xs) : Small (readF k n xs) := by
  unfold readF
  split
  · split
    · refine ⟨?_, fun x hx => ?_⟩
      · show (readN xs).length ≤ 17
        unfold readN
        have := h.1
        simp
        omega
      · have hx' : x ∈ readN xs := hx
        unfold readN at hx'
        exact h.2 x (List.mem_of_mem_drop (List.mem_of_mem_take hx'))
    · exact small_nil _
  · exact small_nil _
theorem cl_cell {k n : Nat} {xs : List Nat} (h : xs.length ≤ 14) (hx : ∀ x ∈ xs, x < 256) : Cl (cellN k n xs) := ⟨cellN_len h, cellN_lt h hx⟩
theorem small_hop {P Q G : Int} {S : List Int} {st : St} {x : Hp} (h : x.turn < 256 ∧ ∀ y ∈ x.body, y < 256) : Small (hopF P Q G S st x).2 := by
  unfold hopF
  split
  · unfold extF
    split
    · exact small_nil _
    · split
      · exact small_nil _
      · split
        · exact small_nil _
        · refine ⟨by show 2 ≤ 17; omega, fun y hy => ?_⟩
          have hk := keyN_lt P G (S.getD st.ks.length 0) x.k x.l
          have hy' : y ∈ [keyN P G (S.getD st.ks.length 0) x.k x.l % 256, keyN P G (S.getD st.ks.length 0) x.k x.l / 256] := hy
          simp only [List.mem_cons, List.not_mem_nil, or_false] at hy'
          omega
  · split
    · unfold sndF
      split
      · rename_i hwr
        exact small_read (cl_there h.1 _ _ _ _ (cl_back _ _ _ (cl_cell (wrong_le hwr).2.1 h.2)))
      · exact small_nil _
    · split
      · unfold backF'
        split
        · rename_i hwr
          exact small_read (cl_off _ _ _ (cl_home h.1 _ _ _ _ (cl_cell (wrong_le hwr).2.1 h.2)))
        · exact small_nil _
      · exact small_nil _
theorem small_run {P Q G : Int} {S : List Int} : ∀ (L : List Hp) (st : St), (∀ x ∈ L, x.turn < 256 ∧ ∀ y ∈ x.body, y < 256) → ∀ r ∈ (runF P Q G S st L).1, Small r
  | [], st, _, r, hr => by simp [runF] at hr
  | x :: L, st, h, r, hr => by
    simp only [runF, List.mem_cons] at hr
    rcases hr with rfl | hr
    · exact small_hop (h x (by simp))
    · exact small_run L _ (fun y hy => h y (by simp [hy])) r hr
set_option maxRecDepth 20000 in
set_option maxHeartbeats 1600000 in
theorem ref_Hops_same (a b : Option Addr) (c d : Nat) (R : List (Int × List Nat)) (w : World) (h1 : HopV w a R) (h2 : HopV w b R) (hs : ∀ r ∈ R, Small r) (hl : R.length ≤ 100) :
    Calls Try.prog 7 #[.slice a R.length c, .slice b R.length d] w fun e w' => e = .returned (.bool true) ∧ Below w.heap.size w w' := by
  have HV1 := Lib.hid h1
  have HV2 := Lib.hid h2
  have HSm := Lib.hid hs
  obtain ⟨N, hN⟩ : ∃ N, R.length = N := ⟨_, rfl⟩
  rw [hN] at hl ⊢
  have HN := Lib.hid hN
  have e1 : ((N : Int) == (N : Int)) = true := by simp
  have e2 : ((N : Int) != (N : Int)) = false := by simp
  clear h1 h2 hs hN
  go_enter Try.func7, Try.ntmps7
  go_wp2
  go_loopw [5] (fun i wr => ∃ I : Nat, i = .int .i64 I ∧ I ≤ N ∧ Below w.heap.size w wr) (fun i _ => N - (intOf i).toNat)
  case atStart => exact ⟨0, rfl, by omega, Below.refl _ _⟩
  case round =>
    obtain ⟨I, rfl, hI, hb⟩ := hrel
    by_cases hlt : I < N
    · obtain ⟨r, hr⟩ : ∃ r, R[I]? = some r := ⟨_, List.getElem?_eq_getElem (by rw [HN.out]; exact hlt)⟩
      obtain ⟨g1, u1, v1, rfl, k1, k2, r1⟩ := HV1.out.below hb I r hr
      obtain ⟨g2, u2, v2, rfl, k3, k4, r2⟩ := HV2.out.below hb I r hr
      obtain ⟨s1, s2⟩ := HSm.out r (List.mem_of_getElem? hr)
      obtain ⟨code, body⟩ := r
      simp only at k1 k2 k3 k4 r1 r2 s1 s2
      have hby := fun w' (q1 : RowB w' u1 v1 body) (q2 : RowB w' u2 v2 body) => ref_Bytes u1 u2 v1 v2 body body w' q1 q2 (by omega) (by omega) s2 s2
      have hbb : (body == body) = true := by simp
      rw [hbb] at hby
      obtain ⟨M, hM⟩ : ∃ M, body.length = M := ⟨_, rfl⟩
      rw [hM] at hby k2 k4
      have HBy := Lib.hid hby
      have HR1 := Lib.hid r1
      have HR2 := Lib.hid r2
      have HB := Lib.hid hb
      have z1 : g1 < wr.heap.size := World.block_lt_of_cell? _ _ k1
      have z2 : g2 < wr.heap.size := World.block_lt_of_cell? _ _ k3
      have n1 : (code == code) = true := by simp
      have n2 : (code != code) = false := by simp
      have hI2 : (I : Int) < (N : Int) := by omega
      clear hby r1 r2 hM s1 s2 hr hbb hb
      go_wp2_with fail
      refine wp_region_D (S := (fun W : World => Below wr.heap.size wr W)) (fun _ => true) (by kernel_rfl) (Below.refl _ _).drew (fun hHeld => ?_)
      simp only [List.size_toArray, List.length_cons, List.length_nil, Nat.reduceAdd, Array.replicate_succ, Array.replicate_zero, List.push_toArray, List.append_toArray, List.nil_append, List.cons_append]
      refine WD_free (i := 0) (oi := _) (v := ?_) rfl (by kernel_rfl) (fun _ _ _ h => h) (Or.inl ⟨by rfl, ?_⟩) ?_
      rotate_left
      · (intro W hS; (try dsimp only at hS); clear hS; go_simp; with_reducible rfl)
      try simp only [Act.put, List.getElem_toArray, List.getElem_cons_succ, List.getElem_cons_zero, List.setIfInBounds_toArray, List.set_cons_zero, List.set_cons_succ]
      refine WD_free (i := 1) (oi := _) (v := ?_) rfl (by kernel_rfl) (fun _ _ _ h => h) (Or.inl ⟨by rfl, ?_⟩) ?_
      rotate_left
      · (intro W hS; (try dsimp only at hS); clear hS; go_simp; with_reducible rfl)
      try simp only [Act.put, List.getElem_toArray, List.getElem_cons_succ, List.getElem_cons_zero, List.setIfInBounds_toArray, List.set_cons_zero, List.set_cons_succ]
      refine WD_free (i := 2) (oi := _) (v := ?_) rfl (by kernel_rfl) (fun _ _ _ h => h) (Or.inl ⟨by rfl, ?_⟩) ?_
      rotate_left
      · (intro W hS; (try dsimp only at hS); clear hS; go_simp; with_reducible rfl)
      try simp only [Act.put, List.getElem_toArray, List.getElem_cons_succ, List.getElem_cons_zero, List.setIfInBounds_toArray, List.set_cons_zero, List.set_cons_succ]
      refine WD_free (i := 3) (oi := _) (v := ?_) rfl (by kernel_rfl) (fun _ _ _ h => h) (Or.inl ⟨by rfl, ?_⟩) ?_
      rotate_left
      · (intro W hS; (try dsimp only at hS); clear hS; go_simp; with_reducible rfl)
      try simp only [Act.put, List.getElem_toArray, List.getElem_cons_succ, List.getElem_cons_zero, List.setIfInBounds_toArray, List.set_cons_zero, List.set_cons_succ]
      refine WD_take (i := 4) (oi := _) (v := ?_) rfl (by kernel_rfl) (fun _ _ _ h => h) (Or.inl ⟨by rfl, ?_⟩) (by assumption) ?_
      rotate_left
      · (intro W hS; (try dsimp only at hS); have kk := (hS.cell (p := ⟨g1, I * 2, none⟩) z1).trans k1; clear hS; go_simp; with_reducible rfl)
      try simp only [Act.put, List.getElem_toArray, List.getElem_cons_succ, List.getElem_cons_zero, List.setIfInBounds_toArray, List.set_cons_zero, List.set_cons_succ]
      refine WD_free (i := 5) (oi := _) (v := ?_) rfl (by kernel_rfl) (fun _ _ _ h => h) (Or.inl ⟨by rfl, ?_⟩) ?_
      rotate_left
      · (intro W hS; (try dsimp only at hS); clear hS; go_simp; with_reducible rfl)
      try simp only [Act.put, List.getElem_toArray, List.getElem_cons_succ, List.getElem_cons_zero, List.setIfInBounds_toArray, List.set_cons_zero, List.set_cons_succ]
      refine WD_free (i := 6) (oi := _) (v := ?_) rfl (by kernel_rfl) (fun _ _ _ h => h) (Or.inl ⟨by rfl, ?_⟩) ?_
      rotate_left
      · (intro W hS; (try dsimp only at hS); clear hS; go_simp; with_reducible rfl)
      try simp only [Act.put, List.getElem_toArray, List.getElem_cons_succ, List.getElem_cons_zero, List.setIfInBounds_toArray, List.set_cons_zero, List.set_cons_succ]
      refine WD_free (i := 7) (oi := _) (v := ?_) rfl (by kernel_rfl) (fun _ _ _ h => h) (Or.inl ⟨by rfl, ?_⟩) ?_
      rotate_left
      · (intro W hS; (try dsimp only at hS); clear hS; go_simp; with_reducible rfl)
      try simp only [Act.put, List.getElem_toArray, List.getElem_cons_succ, List.getElem_cons_zero, List.setIfInBounds_toArray, List.set_cons_zero, List.set_cons_succ]
      refine WD_free (i := 8) (oi := _) (v := ?_) rfl (by kernel_rfl) (fun _ _ _ h => h) (Or.inl ⟨by rfl, ?_⟩) ?_
      rotate_left
      · (intro W hS; (try dsimp only at hS); clear hS; go_simp; with_reducible rfl)
      try simp only [Act.put, List.getElem_toArray, List.getElem_cons_succ, List.getElem_cons_zero, List.setIfInBounds_toArray, List.set_cons_zero, List.set_cons_succ]
      refine WD_take (i := 9) (oi := _) (v := ?_) rfl (by kernel_rfl) (fun _ _ _ h => h) (Or.inl ⟨by rfl, ?_⟩) (by assumption) ?_
      rotate_left
      · (intro W hS; (try dsimp only at hS); have kk := (hS.cell (p := ⟨g2, I * 2, none⟩) z2).trans k3; clear hS; go_simp; with_reducible rfl)
      try simp only [Act.put, List.getElem_toArray, List.getElem_cons_succ, List.getElem_cons_zero, List.setIfInBounds_toArray, List.set_cons_zero, List.set_cons_succ]
      refine WD_free (i := 10) (oi := _) (v := ?_) rfl (by kernel_rfl) (fun _ _ _ h => h) (Or.inl ⟨by rfl, ?_⟩) ?_
      rotate_left
      · (intro W hS; (try dsimp only at hS); clear hS; go_simp; with_reducible rfl)
      try simp only [Act.put, List.getElem_toArray, List.getElem_cons_succ, List.getElem_cons_zero, List.setIfInBounds_toArray, List.set_cons_zero, List.set_cons_succ]
      refine WD_free (i := 11) (oi := _) (v := ?_) rfl (by kernel_rfl) (fun _ _ _ h => h) (Or.inl ⟨by rfl, ?_⟩) ?_
      rotate_left
      · (intro W hS; (try dsimp only at hS); clear hS; go_simp; with_reducible rfl)
      try simp only [Act.put, List.getElem_toArray, List.getElem_cons_succ, List.getElem_cons_zero, List.setIfInBounds_toArray, List.set_cons_zero, List.set_cons_succ]
      refine WD_free (i := 12) (oi := _) (v := ?_) rfl (by kernel_rfl) (fun _ _ _ h => h) (Or.inl ⟨by rfl, ?_⟩) ?_
      rotate_left
      · (intro W hS; (try dsimp only at hS); clear hS; go_simp; with_reducible rfl)
      try simp only [Act.put, List.getElem_toArray, List.getElem_cons_succ, List.getElem_cons_zero, List.setIfInBounds_toArray, List.set_cons_zero, List.set_cons_succ]
      refine WD_free (i := 13) (oi := _) (v := ?_) rfl (by kernel_rfl) (fun _ _ _ h => h) (Or.inl ⟨by rfl, ?_⟩) ?_
      rotate_left
      · (intro W hS; (try dsimp only at hS); clear hS; go_simp; with_reducible rfl)
      try simp only [Act.put, List.getElem_toArray, List.getElem_cons_succ, List.getElem_cons_zero, List.setIfInBounds_toArray, List.set_cons_zero, List.set_cons_succ]
      refine WD_free (i := 14) (oi := _) (v := ?_) rfl (by kernel_rfl) (fun _ _ _ h => h) (Or.inl ⟨by rfl, ?_⟩) ?_
      rotate_left
      · (intro W hS; (try dsimp only at hS); clear hS; go_simp; with_reducible rfl)
      try simp only [Act.put, List.getElem_toArray, List.getElem_cons_succ, List.getElem_cons_zero, List.setIfInBounds_toArray, List.set_cons_zero, List.set_cons_succ]
      refine WD_free (i := 15) (oi := _) (v := ?_) rfl (by kernel_rfl) (fun _ _ _ h => h) (Or.inl ⟨by rfl, ?_⟩) ?_
      rotate_left
      · (intro W hS; (try dsimp only at hS); clear hS; go_simp; with_reducible rfl)
      try simp only [Act.put, List.getElem_toArray, List.getElem_cons_succ, List.getElem_cons_zero, List.setIfInBounds_toArray, List.set_cons_zero, List.set_cons_succ]
      refine WD_take (i := 16) (oi := _) (v := ?_) rfl (by kernel_rfl) (fun _ _ _ h => h) (Or.inl ⟨by rfl, ?_⟩) (by assumption) ?_
      rotate_left
      · (intro W hS; (try dsimp only at hS); have kk := (hS.cell (p := ⟨g1, I * 2 + 1, none⟩) z1).trans k2; clear hS; go_simp; with_reducible rfl)
      try simp only [Act.put, List.getElem_toArray, List.getElem_cons_succ, List.getElem_cons_zero, List.setIfInBounds_toArray, List.set_cons_zero, List.set_cons_succ]
      refine WD_free (i := 17) (oi := _) (v := ?_) rfl (by kernel_rfl) (fun _ _ _ h => h) (Or.inl ⟨by rfl, ?_⟩) ?_
      rotate_left
      · (intro W hS; (try dsimp only at hS); clear hS; go_simp; with_reducible rfl)
      try simp only [Act.put, List.getElem_toArray, List.getElem_cons_succ, List.getElem_cons_zero, List.setIfInBounds_toArray, List.set_cons_zero, List.set_cons_succ]
      refine WD_free (i := 18) (oi := _) (v := ?_) rfl (by kernel_rfl) (fun _ _ _ h => h) (Or.inl ⟨by rfl, ?_⟩) ?_
      rotate_left
      · (intro W hS; (try dsimp only at hS); clear hS; go_simp; with_reducible rfl)
      try simp only [Act.put, List.getElem_toArray, List.getElem_cons_succ, List.getElem_cons_zero, List.setIfInBounds_toArray, List.set_cons_zero, List.set_cons_succ]
      refine WD_free (i := 19) (oi := _) (v := ?_) rfl (by kernel_rfl) (fun _ _ _ h => h) (Or.inl ⟨by rfl, ?_⟩) ?_
      rotate_left
      · (intro W hS; (try dsimp only at hS); clear hS; go_simp; with_reducible rfl)
      try simp only [Act.put, List.getElem_toArray, List.getElem_cons_succ, List.getElem_cons_zero, List.setIfInBounds_toArray, List.set_cons_zero, List.set_cons_succ]
      refine WD_free (i := 20) (oi := _) (v := ?_) rfl (by kernel_rfl) (fun _ _ _ h => h) (Or.inl ⟨by rfl, ?_⟩) ?_
      rotate_left
      · (intro W hS; (try dsimp only at hS); clear hS; go_simp; with_reducible rfl)
      try simp only [Act.put, List.getElem_toArray, List.getElem_cons_succ, List.getElem_cons_zero, List.setIfInBounds_toArray, List.set_cons_zero, List.set_cons_succ]
      refine WD_take (i := 21) (oi := _) (v := ?_) rfl (by kernel_rfl) (fun _ _ _ h => h) (Or.inl ⟨by rfl, ?_⟩) (by assumption) ?_
      rotate_left
      · (intro W hS; (try dsimp only at hS); have kk := (hS.cell (p := ⟨g2, I * 2 + 1, none⟩) z2).trans k4; clear hS; go_simp; with_reducible rfl)
      try simp only [Act.put, List.getElem_toArray, List.getElem_cons_succ, List.getElem_cons_zero, List.setIfInBounds_toArray, List.set_cons_zero, List.set_cons_succ]
      refine WD_step (i := 22) (o := _) rfl (by kernel_rfl) (fun K hK => ?_)
      go_simp
      refine (HBy.out _ (HR1.out.below hHeld (Nat.le_refl _)) (HR2.out.below hHeld (Nat.le_refl _))).mono ?_
      rintro e w1 ⟨rfl, hb1⟩
      go_wp2_with fail
      replace hHeld := below_two hHeld hb1
      refine hK.out _ _ (fun _ _ => hHeld) ?_
      clear hK K
      try simp only [Act.put, List.getElem_toArray, List.getElem_cons_succ, List.getElem_cons_zero, List.setIfInBounds_toArray, List.set_cons_zero, List.set_cons_succ]
      refine WD_free (i := 23) (oi := _) (v := ?_) rfl (by kernel_rfl) (fun _ _ _ h => h) (Or.inl ⟨by rfl, ?_⟩) ?_
      rotate_left
      · (intro W hS; (try dsimp only at hS); clear hS; go_simp; with_reducible rfl)
      try simp only [Act.put, List.getElem_toArray, List.getElem_cons_succ, List.getElem_cons_zero, List.setIfInBounds_toArray, List.set_cons_zero, List.set_cons_succ]
      refine WD_free (i := 24) (oi := _) (v := ?_) rfl (by kernel_rfl) (fun _ _ _ h => h) (Or.inl ⟨by rfl, ?_⟩) ?_
      rotate_left
      · (intro W hS; (try dsimp only at hS); clear hS; go_simp; with_reducible rfl)
      try simp only [Act.put, List.getElem_toArray, List.getElem_cons_succ, List.getElem_cons_zero, List.setIfInBounds_toArray, List.set_cons_zero, List.set_cons_succ]
      refine WD_done (by kernel_rfl) ?_ _
      have HB3 := Lib.hid (HB.out.trans (hHeld.mono HB.out.size))
      clear hHeld
      go_wp2
      go_round
      case rel => exact ⟨I + 1, by go_num, by omega, HB3.out⟩
      case measure => simp [intOf]; omega
    · go_wp2
      go_ret
      exact ⟨rfl, hb⟩
end Go.Proofs.Ytkodhpjmmiapaaa
