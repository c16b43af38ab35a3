/- The walk of the statement CellLayers. -/
import Derived.Test.YtkodhpjmmiapaaaLay
namespace Go.Proofs.Ytkodhpjmmiapaaa
open Go.RowKit
set_option linter.unusedVariables false
set_option linter.unusedSimpArgs false
theorem layN_back (k n : Nat) (xs : List Nat) : layN k n (layN k n xs) = xs := by
  apply List.ext_getElem?
  intro i
  rw [layN_get, layN_get, Option.map_map]
  cases xs[i]? with
  | none => simp only [Option.map_none]
  | some x => simp [Nat.xor_assoc]
theorem layN_comm (j m k n : Nat) (xs : List Nat) : layN k n (layN j m xs) = layN j m (layN k n xs) := by
  apply List.ext_getElem?
  intro i
  rw [layN_get, layN_get, layN_get, layN_get, Option.map_map, Option.map_map]
  cases xs[i]? with
  | none => simp only [Option.map_none]
  | some x =>
    show some (x ^^^ turnN j m i ^^^ turnN k n i) = some (x ^^^ turnN k n i ^^^ turnN j m i)
    rw [Nat.xor_assoc, Nat.xor_comm (turnN j m i), ← Nat.xor_assoc]
theorem Layer_yes (k n : Int) (a : Option Addr) (c : Nat) (xs : List Nat) (w : World) (ho : outB k n = false) (h : RowB w a c xs) (hl : xs.length = 17) (hx : ∀ x ∈ xs, x < 256) :
    Calls Try.prog 42 #[.int .i64 k, .int .i64 n, .slice a 17 c] w fun e w' => ∃ a' c', e = .returned (.tuple #[.slice a' 17 c', .int .i64 0]) ∧ Below w.heap.size w w' ∧ RowB w' a' c' (layN k.toNat n.toNat xs) := by
  obtain ⟨h1, h2, h3, h4⟩ := outB_no.1 ho
  have H := cell_Layer k.toNat n.toNat a c xs w (by omega) (by omega) h hl hx
  rw [Int.toNat_of_nonneg h1, Int.toNat_of_nonneg h3, hl] at H
  refine H.mono ?_
  rintro e w' ⟨v, rfl, hb, hr⟩
  have l1 : (layN k.toNat n.toNat xs).length = 17 := by rw [layN_len]; exact hl
  obtain ⟨a2, c2, rfl, h2, _⟩ : ∃ a c, v = .slice a (layN k.toNat n.toNat xs).length c ∧ RowB w' a c (layN k.toNat n.toNat xs) ∧ ∀ ad, a = some ad → ∃ g, ad = ⟨g, 0, none⟩ := own_rowB (by rw [l1]; exact hr)
  rw [l1]
  exact ⟨a2, c2, rfl, hb, h2⟩
theorem Layer_no (k n : Int) (a : Option Addr) (c L : Nat) (w : World) (ho : outB k n = true ∨ (outB k n = false ∧ L ≠ 17)) (hL : L ≤ maxLen) :
    Calls Try.prog 42 #[.int .i64 k, .int .i64 n, .slice a L c] w fun e w' => (∃ t : Int, ¬ t = 0 ∧ e = .returned (.tuple #[.slice none 0 0, .int .i64 t])) ∧ w = w' := by
  unfold maxLen at hL
  rcases ho with ho | ⟨ho, hne⟩
  · have HO := Lib.hid ho
    clear ho
    go_enter Try.func42, Try.ntmps42
    go_wp2_with fail
    refine (cell_out _ _ _).mono ?_
    rintro e w' ⟨rfl, rfl⟩
    rw [HO.out]
    clear HO
    go_wp2
    go_ret2
    exact ⟨⟨2, by omega, rfl⟩, rfl⟩
  · have HO := Lib.hid ho
    have e1 : ((L : Int) != 17) = true := by simp; omega
    have e2 : ¬ (L : Int) = 17 := by omega
    clear ho
    go_enter Try.func42, Try.ntmps42
    go_wp2_with fail
    refine (cell_out _ _ _).mono ?_
    rintro e w' ⟨rfl, rfl⟩
    rw [HO.out]
    clear HO
    go_wp2
    go_ret2
    exact ⟨⟨4, by omega, rfl⟩, rfl⟩
theorem Layer_any (k n : Int) (a : Option Addr) (c : Nat) (xs : List Nat) (w : World) (h : RowB w a c xs) (hL : xs.length ≤ maxLen) (hx : ∀ x ∈ xs, x < 256) :
    Calls Try.prog 42 #[.int .i64 k, .int .i64 n, .slice a xs.length c] w fun e w' => (∃ v t, e = .returned (.tuple #[v, .int .i64 t])) ∧ Below w.heap.size w w' := by
  by_cases ho : outB k n = true
  · exact (Layer_no k n a c xs.length w (.inl ho) hL).mono fun e w' ⟨⟨t, _, he⟩, hw⟩ => ⟨⟨_, t, he⟩, hw ▸ Below.refl _ _⟩
  · have ho : outB k n = false := by simpa using ho
    by_cases hl : xs.length = 17
    · rw [hl]
      exact (Layer_yes k n a c xs w ho h hl hx).mono fun e w' ⟨a', c', he, hb, _⟩ => ⟨⟨_, 0, he⟩, hb⟩
    · exact (Layer_no k n a c xs.length w (.inr ⟨ho, hl⟩) hL).mono fun e w' ⟨⟨t, _, he⟩, hw⟩ => ⟨⟨_, t, he⟩, hw ▸ Below.refl _ _⟩
end Go.Proofs.Ytkodhpjmmiapaaa
