/- The contract of the iterator of slices.Backward over ints; poly.Value, poly.At. -/
import Derived.Test.YtkkefbjmdbjbhaaRB
import Derived.Test.YtkkefbjmdbjbhaaTim
import Derived.Test.YtkkefbjmdbjbhaaRows
namespace Go.Proofs.Ytkkefbjmdbjbhaa
open Go.RowKit Go.Shelf
attribute [local go_sem] Oper.semAt_some
set_option linter.unusedVariables false
set_option linter.unusedSimpArgs false
/-- what Backward hands over -/
def backL (xs : List Int) : List (Nat × Int) := (List.range xs.length).reverse.map fun i => (i, co xs i)
def encB (x : Nat × Int) : Array Value := #[.int .i64 x.1, .int .i64 x.2]
theorem backL_len (xs : List Int) : (backL xs).length = xs.length := by simp [backL]
theorem backL_at {xs : List Int} {K : Nat} (h : K < xs.length) : (backL xs)[xs.length - (K + 1)]? = some (K, co xs K) := by
  unfold backL
  rw [List.getElem?_map, List.getElem?_reverse (by simp; omega), List.length_range, show xs.length - 1 - (xs.length - (K + 1)) = K by omega, List.getElem?_range h]
  rfl
theorem backL_step {xs : List Int} {K : Nat} (h : K < xs.length) : (backL xs).take (xs.length - (K + 1)) ++ [(K, co xs K)] = (backL xs).take (xs.length - K) := by
  rw [show xs.length - K = xs.length - (K + 1) + 1 by omega, List.take_add_one, backL_at h]; rfl
/-- the world while Value runs -/
structure ValI (w : World) (p x : Int) (v : Value) (W : World) (y : Int) : Prop where
  bel : Below w.heap.size w W
  p : Boxed W w.heap.size 2 (.int .i64 p)
  x : Boxed W (w.heap.size + 1) 2 (.int .i64 x)
  y : Boxed W (w.heap.size + 2) 2 (.int .i64 y)
  v : Boxed W (w.heap.size + 3) 22 v
theorem ValI.alloc {w W : World} {p x y : Int} {v : Value} (h : ValI w p x v W y) (o : Obj) : ValI w p x v (W.alloc o) y := ⟨h.bel.alloc h.bel.size o, h.p.alloc o, h.x.alloc o, h.y.alloc o, h.v.alloc o⟩
theorem ValI.put {w W : World} {p x y : Int} {v : Value} (h : ValI w p x v W y) {k : Nat} (hk : w.heap.size + 4 ≤ k) (o : Obj) : ValI w p x v (W.putObj k o) y :=
  ⟨below_put h.bel (by omega) o, boxed_put h.p (by omega) o, boxed_put h.x (by omega) o, boxed_put h.y (by omega) o, boxed_put h.v (by omega) o⟩
theorem ValI.res {w W : World} {p x y : Int} {v : Value} (h : ValI w p x v W y) (z : Int) : ValI w p x v (W.setCell ⟨w.heap.size + 2, 0, none⟩ (.int .i64 z)) z :=
  ⟨h.bel.setCell (p := ⟨w.heap.size + 2, 0, none⟩) (by simp) _, boxed_other h.p (by omega) _, boxed_other h.x (by omega) _, h.y.set _, boxed_other h.v (by omega) _⟩
theorem ValI.drew {w W : World} {p x y : Int} {v : Value} (h : ValI w p x v W y) : ValI w p x v W.drew y := ⟨h.bel.drew, h.p, h.x, h.y, h.v⟩
/-- Horner -/
def horT (p x : Int) (pre : List (Nat × Int)) : Int := pre.foldl (fun y e => (y * x + e.2) % p) 0
theorem horT_snoc (p x : Int) (pre : List (Nat × Int)) (e : Nat × Int) : horT p x (pre ++ [e]) = (horT p x pre * x + e.2) % p := by simp [horT]
theorem horT_rng {p x : Int} (hp : 1 ≤ p) (pre : List (Nat × Int)) : 0 ≤ horT p x pre ∧ horT p x pre < p := by
  rcases List.eq_nil_or_concat pre with rfl | ⟨q, e, rfl⟩
  · simp [horT]; omega
  · rw [List.concat_eq_append, horT_snoc]; exact ⟨Int.emod_nonneg _ (by omega), Int.emod_lt_of_pos _ (by omega)⟩
def valL (p : Int) (xs : List Int) (x : Int) : Int := horT p x (backL xs)
theorem backL_mem {xs : List Int} {e : Nat × Int} (h : e ∈ backL xs) : e.2 ∈ xs := by
  unfold backL at h
  obtain ⟨i, hi, rfl⟩ := List.mem_map.1 h
  have hi2 : i < xs.length := by simpa using hi
  show co xs i ∈ xs
  rw [co_in hi2]; exact List.getElem_mem _
theorem mul_bd2 {p a b : Int} (hp2 : p ≤ 251) (h1 : 0 ≤ a) (h2 : a < p) (h3 : 0 ≤ b) (h4 : b < p) : 0 ≤ a * b ∧ a * b ≤ 63001 :=
  ⟨Int.mul_nonneg h1 h3, Int.le_trans (Int.mul_le_mul (show a ≤ 251 by omega) (show b ≤ 251 by omega) h3 (by omega)) (by omega)⟩
end Go.Proofs.Ytkkefbjmdbjbhaa
