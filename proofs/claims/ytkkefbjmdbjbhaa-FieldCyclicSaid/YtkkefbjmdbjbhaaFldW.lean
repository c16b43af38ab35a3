/- What the walks of the laws on fields share. -/
import Derived.Test.YtkkefbjmdbjbhaaFldV
namespace Go.Proofs.Ytkkefbjmdbjbhaa
open Go.RowKit
set_option linter.unusedVariables false
set_option linter.unusedSimpArgs false
theorem elE_sub {p : Int} {f xs ys : List Int} (h : elE p f xs = 0) (hs : ∀ y ∈ ys, y ∈ xs) : elE p f ys = 0 := by
  obtain ⟨h0, h1⟩ := elE_zero h
  refine elE_c h0 fun j x hx => ?_
  have h2 := h1 x (hs x (List.mem_of_getElem? hx))
  unfold offB
  obtain ⟨S, hS⟩ : ∃ S, p.toNat ^ (f.length - 1) = S := ⟨_, rfl⟩
  rw [hS] at h2 ⊢
  exact decide_eq_false (by omega)
theorem elE_not {p : Int} {f xs ys : List Int} (h : ¬ elE p f xs = 0) (hs : ∀ y ∈ xs, y ∈ ys) : elE p f ys ≠ 0 := fun e => h (elE_sub e hs)
theorem below_alloc {w W : World} (h : Below w.heap.size w W) (o : Obj) : Below w.heap.size w (W.alloc o) := h.alloc h.size o
theorem Fd.sz {P m : Nat} {f : List Int} (h : Fd P m f) {Lf : Nat} (hL : f.length = Lf) (af : Option Addr) (cf : Nat) (w : World) :
    Calls Try.prog 11 #[.int .i64 P, .slice af Lf cf] w fun e w' => e = .returned (.int .i64 ((P ^ m : Nat) : Int)) ∧ w = w' := by
  have h1 := h.fl.p2
  have h2 := h.fl.p251
  have h3 := h.fl.m12
  have h4 := h.fl.small
  have := ref_FieldSize P m af cf Lf w h1 h2 (by rw [← hL, h.len]) (by omega)
  rwa [szN_ok (show ¬ 4096 < P ^ m by omega)] at this
end Go.Proofs.Ytkkefbjmdbjbhaa
