/- Pairs of ints behind an address (for the seats without XWrong). -/
import Derived.Test.YtceocooppjfjjaaOwnG
import Derived.Deep.SlicePairs
import Derived.ChangeArms
namespace Go.Proofs.Ytceocooppjfjjaa
open Go.RowKit
set_option linter.unusedVariables false
set_option linter.unusedSimpArgs false
/-- points as cells -/
def flatI (pts : List (Int × Int)) : List Value := pts.flatMap fun v => [.int .i64 v.1, .int .i64 v.2]
theorem flatI_at : ∀ (pts : List (Int × Int)) (i : Nat) (v : Int × Int), pts[i]? = some v → (flatI pts)[i * 2]? = some (.int .i64 v.1) ∧ (flatI pts)[i * 2 + 1]? = some (.int .i64 v.2)
  | [], i, v, h => by simp at h
  | u :: t, 0, v, h => by simp at h; subst h; exact ⟨rfl, rfl⟩
  | u :: t, i + 1, v, h => by
    have ih := flatI_at t i v (by simpa using h)
    have e1 : (i + 1) * 2 = i * 2 + 1 + 1 := by omega
    rw [e1]
    show (Value.int .i64 u.1 :: Value.int .i64 u.2 :: flatI t)[i * 2 + 1 + 1]? = _ ∧ (Value.int .i64 u.1 :: Value.int .i64 u.2 :: flatI t)[i * 2 + 1 + 1 + 1]? = _
    exact ih
/-- a row of points behind an address -/
def RowP (W : World) (a : Option Addr) (c : Nat) (pts : List (Int × Int)) : Prop := (a = none → pts = [] ∧ c = 0) ∧ (∀ ad, a = some ad → ∀ (j : Nat) (u : Value), (flatI pts)[j]? = some u → W.cell? (ad.add j) = some u) ∧ pts.length ≤ c
theorem RowP.below {W W' : World} {a : Option Addr} {c : Nat} {pts : List (Int × Int)} (h : RowP W a c pts) {B : Nat} (hb : Below B W W') (hB : W.heap.size ≤ B) : RowP W' a c pts :=
  ⟨h.1, fun ad e j u hu => by
    have k := h.2.1 ad e j u hu
    exact (hb.cell (p := ad.add j) (Nat.lt_of_lt_of_le (World.block_lt_of_cell? W _ k) hB)).trans k, h.2.2⟩
theorem RowP.shape {W : World} {a : Option Addr} {c : Nat} {pts : List (Int × Int)} (h : RowP W a c pts) (hne : 0 < pts.length) :
    ∃ b o, a = some ⟨b, o, none⟩ ∧ ∀ (i : Nat) (v : Int × Int), pts[i]? = some v → W.cell? ⟨b, o + i * 2, none⟩ = some (.int .i64 v.1) ∧ W.cell? ⟨b, o + i * 2 + 1, none⟩ = some (.int .i64 v.2) := by
  rcases a with _ | ⟨b, o, s⟩
  · have := (h.1 rfl).1; subst this; simp at hne
  · have k0 := h.2.1 _ rfl 0 _ (flatI_at pts 0 _ (List.getElem?_eq_getElem hne)).1
    have hs : s = none := by
      cases s with
      | none => rfl
      | some y =>
        simp [World.cell?, Addr.add] at k0
        split at k0 <;> simp at k0
    subst hs
    refine ⟨b, o, rfl, fun i v hv => ?_⟩
    have k := h.2.1 _ rfl _ _ (flatI_at pts i v hv).1
    have k2 := h.2.1 _ rfl _ _ (flatI_at pts i v hv).2
    rw [Addr.add_lit] at k k2
    exact ⟨k, by rw [Nat.add_assoc]; exact k2⟩
def IsPts (W : World) (a : Option Addr) (len cap : Nat) (zs : List (Int × Int)) : Prop :=
  (a = none ∧ len = 0 ∧ cap = 0 ∧ zs = []) ∨ ∃ ad, a = some ad ∧ len ≤ cap ∧ cap ≤ maxLen ∧ zs.length = len ∧ ∀ (i : Nat) (v : Int × Int), zs[i]? = some v → W.cell? (ad.add (i * 2)) = some (.int .i64 v.1) ∧ W.cell? (ad.add (i * 2 + 1)) = some (.int .i64 v.2)
theorem flatI_len' : ∀ (pts : List (Int × Int)), (flatI pts).length = pts.length * 2
  | [] => rfl
  | v :: t => by
    show (Value.int .i64 v.1 :: Value.int .i64 v.2 :: flatI t).length = _
    simp only [List.length_cons, flatI_len' t]; omega
theorem IsPts.pts {W : World} {a : Option Addr} {len cap : Nat} {zs : List (Int × Int)} (h : IsPts W a len cap zs) : zs.length = len ∧ RowP W a cap zs ∧ len ≤ 9223372036854775807 := by
  rcases h with ⟨rfl, rfl, rfl, rfl⟩ | ⟨ad, rfl, hl, hm, hz, hc⟩
  · exact ⟨rfl, ⟨fun _ => ⟨rfl, rfl⟩, (fun ad e => by cases e), Nat.le_refl _⟩, by omega⟩
  · refine ⟨hz, ⟨(fun e => by cases e), (fun ad' e j u hu => ?_), by omega⟩, by unfold maxLen at hm; omega⟩
    cases e
    have hj : j < (flatI zs).length := (List.getElem?_eq_some_iff.1 hu).1
    rw [flatI_len'] at hj
    have hv : zs[j / 2]? = some zs[j / 2] := List.getElem?_eq_getElem (by omega)
    obtain ⟨c1, c2⟩ := hc _ _ hv
    obtain ⟨f1, f2⟩ := flatI_at zs _ _ hv
    rcases Nat.mod_two_eq_zero_or_one j with e | e
    · rw [show j / 2 * 2 = j by omega] at c1 f1
      rw [f1] at hu; cases hu; exact c1
    · rw [show j / 2 * 2 + 1 = j by omega] at c2 f2
      rw [f2] at hu; cases hu; exact c2
theorem flatI_len : ∀ (pts : List (Int × Int)), (flatI pts).length = pts.length * 2
  | [] => rfl
  | v :: t => by
    show (Value.int .i64 v.1 :: Value.int .i64 v.2 :: flatI t).length = _
    simp only [List.length_cons, flatI_len t]; omega
theorem flatI_append (a b : List (Int × Int)) : flatI (a ++ b) = flatI a ++ flatI b := by simp [flatI]
theorem own_rowP {W : World} {base : Nat} {v : Value} {pts : List (Int × Int)} {e : TypeId} (h : W.ownsRow base e 2 v pts.length (flatI pts)) : ∃ a c, v = .slice a pts.length c ∧ RowP W a c pts := by
  rcases h.2 with ⟨h1, h2⟩ | ⟨g, cap, cur, h1, h2, h3, h4, h5, h6, h7⟩
  · have : pts = [] := List.eq_nil_of_length_eq_zero h2
    subst this
    exact ⟨none, 0, h1, fun _ => ⟨rfl, rfl⟩, (fun ad e => by cases e), Nat.le_refl _⟩
  · refine ⟨_, cap, h1, (fun e => by cases e), (fun ad e j u hu => ?_), h4⟩
    cases e
    rw [add_at]
    have hi : j < (flatI pts).length := (List.getElem?_eq_some_iff.1 hu).1
    have hl := h.1
    rw [← h7, List.getElem?_take, if_pos (by omega)] at hu
    simp only [World.cell?]; rw [h3]; simpa using hu
end Go.Proofs.Ytceocooppjfjjaa
