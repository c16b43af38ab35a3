/- A slice of structs whose fields are one cell each, opened at every index; what its elements weigh. -/
import Derived.Test.YtceocooppjfjjaaBase
import Derived.Deep.Slices
import Derived.ChangeSame
import Derived.SizedLaws
namespace Go.Proofs.Ytceocooppjfjjaa
open Go.RowKit Go.ChangeShapes Go.WideShapes Go.Deep
set_option linter.unusedVariables false
set_option linter.unusedSimpArgs false
theorem weights_all_mem {H : Type} {P : Program} {e : TypeId} : ∀ {l : List (DataW H)} {i : Nat} {d : DataW H}, l[i]? = some d → ∀ n ∈ d.weights P e, n ∈ DataW.weightsAll P e l
  | d0 :: l, 0, d, h, n, hn => by
    simp only [List.getElem?_cons_zero, Option.some.injEq] at h
    subst h
    simp only [DataW.weightsAll, List.mem_append]; exact .inl hn
  | d0 :: l, i + 1, d, h, n, hn => by
    simp only [List.getElem?_cons_succ] at h
    simp only [DataW.weightsAll, List.mem_append]; exact .inr (weights_all_mem h n hn)
  | [], i, d, h, n, hn => by simp at h
theorem open_slice_flat {H : Type} {enc : TypeId × Value → H} {P : Program} {w : World} {base : Nat} {held : Bool} {t e : TypeId} {fs : Array Field} {k : Nat} {fuel : Nat} {cs : List Value} {x : DataW H × List MemPlace}
    (ht : P.underlying t = some (.slice e)) (he : P.underlying e = some (.struct fs)) (ce : P.cellsOf e = k) (hfs : fs.size = k) (hof : ∀ (j : Nat) (f : Field), fs[j]? = some f → f.offset = j ∧ P.cellsOf f.type = 1)
    (h : DataW.trod enc P w base (fun _ => true) held fuel t cs = some x) :
    cs = [.slice none 0 0] ∨ ∃ (a : Addr) (len cap : Nat), cs = [.slice (some a) len cap] ∧ len ≤ cap ∧ cap ≤ maxLen ∧
      ∀ i, i < cap → ∀ (j : Nat) (f : Field), fs[j]? = some f → ∃ v d n, w.cell? (a.add (i * k + j)) = some v ∧ DataW.trod enc P w base (fun _ => true) held n f.type [v] = some d ∧ (i < len → ∀ m ∈ d.1.weights P f.type, m ∈ x.1.weights P t) := by
  rcases open_slice ht h with h0 | ⟨a, len, cap, m, n, D, Pl, rfl, hb, hl, hm, hmm, rfl, hx⟩
  · exact .inl h0.1
  · refine .inr ⟨a, len, cap, rfl, hl, hm, fun i hi j f hf => ?_⟩
    obtain ⟨cs', h1, h2⟩ := hx i (by rw [hmm]; simpa using hi)
    rw [ce] at h1
    obtain ⟨_, hlen, hcell⟩ := World.cells?_some h1
    obtain ⟨xs, n', hk, hxy, _, hxl, hfld⟩ := DataW.trod_struct he h2
    obtain ⟨o1, c1⟩ := hof j f hf
    have hj : j < k := by rw [← hfs]; exact (Array.getElem?_eq_some_iff.1 hf).1
    have g := hfld j f hf
    rw [o1, c1] at g
    have hv : cs'[j]? = some cs'[j] := List.getElem?_eq_getElem (by omega)
    have e1 : (cs'.drop j).take 1 = [cs'[j]] := by
      rw [List.drop_eq_getElem_cons (by omega)]; rfl
    rw [e1] at g
    have hd : xs[j]? = some xs[j] := List.getElem?_eq_getElem (by rw [hxl, hfs]; exact hj)
    rw [hd] at g
    refine ⟨cs'[j], xs[j], n', ?_, g, fun hil mm hmem => ?_⟩
    · have := hcell j hj
      rw [add_add] at this
      rw [this, hv]
    · have hD : D i = .agg (xs.map (·.1)) := congrArg Prod.fst hxy
      have m1 : mm ∈ DataW.weightsEach P (fs.toList.map (·.type)) (xs.map (·.1)) := DataW.weights_mem_each (j := j) (t := f.type) (by simp [hf]) (by rw [List.getElem?_map, hd]; rfl) mm hmem
      have m2 : mm ∈ (D i).weights P e := by rw [hD]; simp only [DataW.weights, he]; exact m1
      have m3 : mm ∈ DataW.weightsAll P e ((List.range len).map D) := weights_all_mem (i := i) (d := D i) (by rw [List.getElem?_map, List.getElem?_range hil]; rfl) mm m2
      simp only [DataW.weights, ht, List.mem_cons, List.mem_append]
      exact .inr (.inl m3)
end Go.Proofs.Ytceocooppjfjjaa
