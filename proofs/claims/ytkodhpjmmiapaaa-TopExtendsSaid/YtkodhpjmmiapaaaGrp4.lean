/- Contracts of package group: Shared, Public; of the statements' good and powers. -/
import Derived.Test.YtkodhpjmmiapaaaGrp3
namespace Go.Proofs.Ytkodhpjmmiapaaa
open Go.RowKit
set_option linter.unusedVariables false
set_option linter.unusedSimpArgs false
/-- what is wrong with a power and a member -/
noncomputable def shE (P Q G H a t : Int) : Int := wrongE P Q G H [a] [t]
theorem shE_zero {P Q G H a t : Int} (h : shE P Q G H a t = 0) : grpE P Q G H = 0 ∧ 0 ≤ a ∧ a < Q ∧ memB P Q t = true := by
  unfold shE wrongE at h
  by_cases g : grpE P Q G H = 0
  · rw [if_pos g] at h
    by_cases e : powsB Q [a] = true
    · rw [if_pos e] at h
      by_cases f : memsB P Q [t] = true
      · simp [powsB, memsB] at e f; exact ⟨g, e.1, e.2, f⟩
      · rw [if_neg f] at h; omega
    · rw [if_neg e] at h; omega
  · rw [if_neg g] at h; exact absurd h g
theorem shE_ok {P Q G H a t : Int} (h : grpE P Q G H = 0) (h1 : 0 ≤ a) (h2 : a < Q) (h3 : memB P Q t = true) : shE P Q G H a t = 0 := by
  simp [shE, wrongE, h, powsB, memsB, h1, h2, h3]
theorem RowI.one {W : World} {b : Nat} {x : Int} (h : W.cell? ⟨b, 0, none⟩ = some (.int .i64 x)) (hb : b < W.heap.size) : RowI W (some ⟨b, 0, none⟩) [x] := fun i y hy => by
  match i, hy with
  | 0, hy => cases hy; exact ⟨b, 0, rfl, hb, h⟩
  | i + 1, hy => simp at hy
theorem RowI.two {W : World} {b : Nat} {x y : Int} (h : W.cell? ⟨b, 0, none⟩ = some (.int .i64 x)) (h' : W.cell? ⟨b, 1, none⟩ = some (.int .i64 y)) (hb : b < W.heap.size) : RowI W (some ⟨b, 0, none⟩) [x, y] := fun i z hz => by
  match i, hz with
  | 0, hz => cases hz; exact ⟨b, 0, rfl, hb, h⟩
  | 1, hz => cases hz; exact ⟨b, 0, rfl, hb, h'⟩
  | i + 2, hz => simp at hz
theorem RowI.cells {w : World} {zs : List Int} {vs : Array Value} {T : Nat} (h : ∀ (i : Nat) x, zs[i]? = some x → vs[i]? = some (.int .i64 x)) : RowI (w.alloc (.cells vs T)) (some ⟨w.heap.size, 0, none⟩) zs := fun i x hx => by
  refine ⟨w.heap.size, 0, rfl, by simp, ?_⟩
  have := h i x hx
  simp [this]
/-- what 'wrong' finds -/
theorem wrong_call (P Q G H : Int) (ap am : Option Addr) (cp cm : Nat) (zp zm : List Int) (w : World) (h1 : RowI w ap zp) (h2 : RowI w am zm) (l1 : zp.length ≤ 8) (l2 : zm.length ≤ 8) (t : Int) (ht : wrongE P Q G H zp zm = t) :
    Calls Try.prog 53 #[.agg #[.int .i64 P, .int .i64 Q, .int .i64 G, .int .i64 H], .slice ap zp.length cp, .slice am zm.length cm] w fun e w' => e = .returned (.int .i64 t) ∧ Below w.heap.size w w' := by
  subst ht; exact group_wrong P Q G H ap am cp cm zp zm w h1 h2 l1 l2
set_option maxHeartbeats 1600000 in
theorem group_Shared (P Q G H a t : Int) (w : World) (h : shE P Q G H a t = 0) :
    Calls Try.prog 38 #[.agg #[.int .i64 P, .int .i64 Q, .int .i64 G, .int .i64 H], .int .i64 a, .int .i64 t] w fun e w' => e = .returned (.tuple #[.int .i64 (pw t a P), .int .i64 0]) ∧ Below w.heap.size w w' := by
  have HE := Lib.hid h
  obtain ⟨hg, a1, a2, a3⟩ := shE_zero h
  have ⟨g1, g2, g3, g4, _⟩ := (grpE_zero hg).1
  clear h hg a3
  go_enter Try.func38, Try.ntmps38
  go_wp2_with fail
  refine (wrong_call P Q G H _ _ 1 1 [a] [t] _ ?r1 ?r2 (by simp) (by simp) _ HE.out).mono ?_
  case r1 => exact RowI.one (by simp [go_sem]) (by simp [go_sem] <;> omega)
  case r2 => exact RowI.one (by simp [go_sem]) (by simp [go_sem] <;> omega)
  rintro e w1 ⟨rfl, hb1⟩
  have z1 := hb1.size
  simp at z1
  have k0 := kept hb1 (b := w.heap.size) (o := 0) (v := .int .i64 P) (by simp [go_sem]) (by simp [go_sem] <;> omega)
  go_wp2_with fail
  refine (power_Of' t a P _ (by omega) (by omega) (by omega) g2).mono ?_
  rintro e w2 ⟨rfl, rfl⟩
  go_wp2
  go_ret2
  exact ⟨rfl, below_two ((((Below.refl _ _).alloc (Nat.le_refl _) _).alloc (by simp) _).alloc (by simp; omega) _) hb1⟩
set_option maxHeartbeats 1600000 in
theorem group_Shared_no (P Q G H a t : Int) (w : World) (h : ¬ shE P Q G H a t = 0) :
    Calls Try.prog 38 #[.agg #[.int .i64 P, .int .i64 Q, .int .i64 G, .int .i64 H], .int .i64 a, .int .i64 t] w fun e w' => e = .returned (.tuple #[.int .i64 0, .int .i64 (shE P Q G H a t)]) ∧ Below w.heap.size w w' := by
  obtain ⟨x, hx⟩ : ∃ x, shE P Q G H a t = x := ⟨_, rfl⟩
  rw [hx] at h ⊢
  have HE := Lib.hid hx
  clear hx
  have e1 : (x == 0) = false := by simpa using h
  have e2 : (x != 0) = true := by simpa using h
  go_enter Try.func38, Try.ntmps38
  go_wp2_with fail
  refine (wrong_call P Q G H _ _ 1 1 [a] [t] _ ?r1 ?r2 (by simp) (by simp) _ HE.out).mono ?_
  case r1 => exact RowI.one (by simp [go_sem]) (by simp [go_sem] <;> omega)
  case r2 => exact RowI.one (by simp [go_sem]) (by simp [go_sem] <;> omega)
  rintro e w1 ⟨rfl, hb1⟩
  go_wp2
  go_ret2
  exact ⟨rfl, below_two ((((Below.refl _ _).alloc (Nat.le_refl _) _).alloc (by simp) _).alloc (by simp; omega) _) hb1⟩
theorem group_Public (P Q G H a : Int) (w : World) (h : shE P Q G H a G = 0) :
    Calls Try.prog 22 #[.agg #[.int .i64 P, .int .i64 Q, .int .i64 G, .int .i64 H], .int .i64 a] w fun e w' => e = .returned (.tuple #[.int .i64 (pw G a P), .int .i64 0]) ∧ Below w.heap.size w w' := by
  go_enter Try.func22, Try.ntmps22
  go_wp2_with fail
  refine (group_Shared P Q G H a G _ h).mono ?_
  rintro e w1 ⟨rfl, hb1⟩
  go_wp2
  go_ret2
  exact ⟨rfl, below_two ((Below.refl _ _).alloc (Nat.le_refl _) _) hb1⟩
theorem group_Public_no (P Q G H a : Int) (w : World) (h : ¬ shE P Q G H a G = 0) :
    Calls Try.prog 22 #[.agg #[.int .i64 P, .int .i64 Q, .int .i64 G, .int .i64 H], .int .i64 a] w fun e w' => e = .returned (.tuple #[.int .i64 0, .int .i64 (shE P Q G H a G)]) ∧ Below w.heap.size w w' := by
  go_enter Try.func22, Try.ntmps22
  go_wp2_with fail
  refine (group_Shared_no P Q G H a G _ h).mono ?_
  rintro e w1 ⟨rfl, hb1⟩
  go_wp2
  go_ret2
  exact ⟨rfl, below_two ((Below.refl _ _).alloc (Nat.le_refl _) _) hb1⟩
end Go.Proofs.Ytkodhpjmmiapaaa
