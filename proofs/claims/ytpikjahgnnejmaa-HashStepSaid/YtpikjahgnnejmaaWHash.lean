/- The walk of the statement HashStep. -/
import Derived.Test.YtpikjahgnnejmaaHash
namespace Go.Proofs.Ytpikjahgnnejmaa
open Go.RowKit
set_option linter.unusedVariables false
set_option linter.unusedSimpArgs false
theorem wf16 {a : Int} (h : (Lit.int .u16 a).wf = true) : 0 ≤ a ∧ a < 65536 := by
  have := h
  simp [Lit.wf, IntKind.min, IntKind.max, IntKind.signed, go_sem] at this
  omega
theorem wf8 {a : Int} (h : (Lit.int .u8 a).wf = true) : 0 ≤ a ∧ a < 256 := by
  have := h
  simp [Lit.wf, IntKind.min, IntKind.max, IntKind.signed, go_sem] at this
  omega
set_option maxHeartbeats 1600000 in
theorem WHashStep (a0 : Int) (a1 : Int) (a2 : Int) (a3 : Int) (w : World) (w0 : (Lit.int .u16 a0).wf = true) (w1 : (Lit.int .u16 a1).wf = true) (w2 : (Lit.int .u8 a2).wf = true) (w3 : (Lit.int .u8 a3).wf = true) :
    Calls Try.prog 3 #[.int .u16 a0, .int .u16 a1, .int .u8 a2, .int .u8 a3] w fun e w' => e = .returned (.bool true) ∧ Below w.heap.size w w' := by
  have b0 := wf16 w0
  have b1 := wf16 w1
  have b2 := wf8 w2
  have b3 := wf8 w3
  clear w0 w1 w2 w3
  obtain ⟨g, rfl⟩ := Int.eq_ofNat_of_zero_le b0.1
  obtain ⟨h, rfl⟩ := Int.eq_ofNat_of_zero_le b1.1
  obtain ⟨a, rfl⟩ := Int.eq_ofNat_of_zero_le b2.1
  obtain ⟨b, rfl⟩ := Int.eq_ofNat_of_zero_le b3.1
  have l1 := M.stepN_lt g a
  have i1 := M.stepN_right (h := g) (h' := h) (b := a) (by omega) (by omega) (by omega)
  have i2 := M.stepN_left (h := g) (b := a) (b' := b) (by omega) (by omega) (by omega)
  obtain ⟨x, hx⟩ : ∃ x, x = M.stepN g a := ⟨_, rfl⟩
  obtain ⟨y, hy⟩ : ∃ x, x = M.stepN h a := ⟨_, rfl⟩
  obtain ⟨z, hz⟩ : ∃ x, x = M.stepN g b := ⟨_, rfl⟩
  rw [← hx] at l1 i1 i2
  rw [← hy] at i1
  rw [← hz] at i2
  have HX := Lib.hid hx
  have HY := Lib.hid hy
  have HZ := Lib.hid hz
  have j1 : ((x : Int) == (y : Int)) = ((g : Int) == (h : Int)) := by
    apply Bool.eq_iff_iff.2; simp; omega
  have j2 : ((x : Int) == (z : Int)) = ((a : Int) == (b : Int)) := by
    apply Bool.eq_iff_iff.2; simp; omega
  have L : (x : Int) < 65536 := by omega
  obtain ⟨t1, ht1⟩ : ∃ t, ((x : Int) == (y : Int)) = t := ⟨_, rfl⟩
  obtain ⟨t2, ht2⟩ : ∃ t, ((x : Int) == (z : Int)) = t := ⟨_, rfl⟩
  have s1 := j1.symm.trans ht1
  have s2 := j2.symm.trans ht2
  clear j1 j2 hx hy hz i1 i2 l1
  cases t1 <;> cases t2
  all_goals
    go_enter Try.func3, Try.ntmps3
    go_wp2_with fail
    refine (hash_Step _ _ _ (by omega) (by omega)).mono ?_
    rintro e w' ⟨rfl, rfl⟩
    rw [← HX.out]
    go_wp2_with fail
    refine (hash_Step _ _ _ (by omega) (by omega)).mono ?_
    rintro e w' ⟨rfl, rfl⟩
    rw [← HY.out]
    go_wp2_with fail
    refine (hash_Step _ _ _ (by omega) (by omega)).mono ?_
    rintro e w' ⟨rfl, rfl⟩
    rw [← HZ.out]
    go_wp2
    go_ret
    exact ⟨rfl, Below.refl _ _⟩
end Go.Proofs.Ytpikjahgnnejmaa
