/- A slice of points that came in. -/
import Derived.Test.YtfgmnlphejpcaaaWrong
import Derived.Deep.SlicePairs
import Derived.ChangeArms
namespace Go.Proofs.Ytfgmnlphejpcaaa
open Go.RowKit
set_option linter.unusedVariables false
set_option linter.unusedSimpArgs false
def IsPts (W : World) (a : Option Addr) (len cap : Nat) (zs : List (Int × Int)) : Prop :=
  (a = none ∧ len = 0 ∧ cap = 0 ∧ zs = []) ∨ ∃ ad, a = some ad ∧ len ≤ cap ∧ cap ≤ maxLen ∧ zs.length = len ∧ ∀ (i : Nat) (v : Int × Int), zs[i]? = some v → W.cell? (ad.add (i * 2)) = some (.int .i64 v.1) ∧ W.cell? (ad.add (i * 2 + 1)) = some (.int .i64 v.2)
theorem flatI_len' : ∀ (pts : List (Int × Int)), (flatI pts).length = pts.length * 2
  | [] => rfl
  | v :: t => by
    show (Value.int .i64 v.1 :: Value.int .i64 v.2 :: flatI t).length = _
    simp only [List.length_cons, flatI_len' t]; omega
theorem IsPts.pts {W : World} {a : Option Addr} {len cap : Nat} {zs : List (Int × Int)} (h : IsPts W a len cap zs) : zs.length = len ∧ RowP W a cap zs ∧ len ≤ 9223372036854775807 := by
  rcases h with ⟨rfl, rfl, rfl, rfl⟩ | ⟨ad, rfl, hl, hm, hz, hc⟩
  · exact ⟨rfl, ⟨fun _ => ⟨rfl, rfl⟩, (fun ad e => by cases e), Nat.le_refl _⟩, by omega⟩
  · refine ⟨hz, ⟨(fun e => by cases e), (fun ad' e j u hu => ?_), by omega⟩, by unfold maxLen at hm; omega⟩
    cases e
    have hj : j < (flatI zs).length := (List.getElem?_eq_some_iff.1 hu).1
    rw [flatI_len'] at hj
    have hv : zs[j / 2]? = some zs[j / 2] := List.getElem?_eq_getElem (by omega)
    obtain ⟨c1, c2⟩ := hc _ _ hv
    obtain ⟨f1, f2⟩ := flatI_at zs _ _ hv
    rcases Nat.mod_two_eq_zero_or_one j with e | e
    · rw [show j / 2 * 2 = j by omega] at c1 f1
      rw [f1] at hu; cases hu; exact c1
    · rw [show j / 2 * 2 + 1 = j by omega] at c2 f2
      rw [f2] at hu; cases hu; exact c2
theorem pts_open {H : Type} {enc : TypeId × Value → H} {W : World} {fuel : Nat} {a : Option Addr} {len cap : Nat} {x : DataW H × List MemPlace}
    (hf : DataW.trod enc Try.prog W 0 (fun _ => true) true fuel 39 [.slice a len cap] = some x) : ∃ zs, IsPts W a len cap zs := by
  rcases Go.Deep.open_slice_pairs Try.underlying39 Try.underlying43 (by kernel_rfl) rfl rfl (by kernel_rfl) (by kernel_rfl) hf with ⟨hcs, _⟩ | ⟨ad, l, c, m, n, V0, V1, D0, D1, P0, P1, hcs, _, hl, hm, hmm, _, hc⟩
  · simp at hcs
    obtain ⟨rfl, rfl, rfl⟩ := hcs
    exact ⟨[], .inl ⟨rfl, rfl, rfl, rfl⟩⟩
  · simp at hcs
    obtain ⟨rfl, rfl, rfl⟩ := hcs
    have hlm : len ≤ m := by rw [hmm]; simp; exact hl
    refine ⟨(List.range len).map fun i => (intOf (V0 i), intOf (V1 i)), .inr ⟨ad, rfl, hl, hm, by simp, fun i v hv => ?_⟩⟩
    have hi : i < len := by have := (List.getElem?_eq_some_iff.1 hv).1; simpa using this
    rw [List.getElem?_map, List.getElem?_range hi] at hv
    simp at hv
    subst hv
    obtain ⟨c0, c1, t0, t1⟩ := hc i (by omega)
    obtain ⟨x, ex, _, _⟩ := DataW.trod_int Try.underlying2 t0
    obtain ⟨y, ey, _, _⟩ := DataW.trod_int Try.underlying2 t1
    simp at ex ey
    rw [c0, c1, ex, ey]
    exact ⟨rfl, rfl⟩
end Go.Proofs.Ytfgmnlphejpcaaa
