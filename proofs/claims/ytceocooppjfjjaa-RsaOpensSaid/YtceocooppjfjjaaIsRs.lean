/- A slice of pairs (Rest) that came in. -/
import Derived.Test.YtceocooppjfjjaaPair
namespace Go.Proofs.Ytceocooppjfjjaa
open Go.RowKit
set_option linter.unusedVariables false
set_option linter.unusedSimpArgs false
theorem pts_open {H : Type} {enc : TypeId × Value → H} {W : World} {fuel : Nat} {a : Option Addr} {len cap : Nat} {x : DataW H × List MemPlace}
    (hf : DataW.trod enc Try.prog W 0 (fun _ => true) true fuel 44 [.slice a len cap] = some x) : ∃ zs, IsPts W a len cap zs := by
  rcases Go.Deep.open_slice_pairs Try.underlying44 Try.underlying46 (by kernel_rfl) rfl rfl (by kernel_rfl) (by kernel_rfl) hf with ⟨hcs, _⟩ | ⟨ad, l, c, m, n, V0, V1, D0, D1, P0, P1, hcs, _, hl, hm, hmm, _, hc⟩
  · simp at hcs
    obtain ⟨rfl, rfl, rfl⟩ := hcs
    exact ⟨[], .inl ⟨rfl, rfl, rfl, rfl⟩⟩
  · simp at hcs
    obtain ⟨rfl, rfl, rfl⟩ := hcs
    have hlm : len ≤ m := by rw [hmm]; simp; exact hl
    refine ⟨(List.range len).map fun i => (intOf (V0 i), intOf (V1 i)), .inr ⟨ad, rfl, hl, hm, by simp, fun i v hv => ?_⟩⟩
    have hi : i < len := by have := (List.getElem?_eq_some_iff.1 hv).1; simpa using this
    rw [List.getElem?_map, List.getElem?_range hi] at hv
    simp at hv
    subst hv
    obtain ⟨c0, c1, t0, t1⟩ := hc i (by omega)
    obtain ⟨x, ex, _, _⟩ := DataW.trod_int Try.underlying2 t0
    obtain ⟨y, ey, _, _⟩ := DataW.trod_int Try.underlying2 t1
    simp at ex ey
    rw [c0, c1, ex, ey]
    exact ⟨rfl, rfl⟩
end Go.Proofs.Ytceocooppjfjjaa
