/- The walk of the statement RsaMuls. -/
import Derived.Test.YtfebomnblpamlaaRsa
import Derived.Deep.RegionHeld3
namespace Go.Proofs.Ytfebomnblpamlaa
open Go.RowKit
set_option linter.unusedVariables false
set_option linter.unusedSimpArgs false
theorem pow_mul_mod (x y N : Int) (k : Nat) : (x * y % N) ^ k % N = (x ^ k % N) * (y ^ k % N) % N := by
  rw [M.emod_pow, Int.mul_pow, Int.mul_emod]
theorem one_pow_mod (N : Int) (k : Nat) : (1 % N) ^ k % N = 1 % N := by rw [M.emod_pow, Int.one_pow]
set_option maxHeartbeats 1600000 in
theorem WRsaMuls (a0x : Int) (a0y : Int) (a0z : Int) (a1 : Int) (a2 : Int) (w : World) (w0x : (Lit.int .i64 a0x).wf = true) (w0y : (Lit.int .i64 a0y).wf = true) (w0z : (Lit.int .i64 a0z).wf = true) (w1 : (Lit.int .i64 a1).wf = true) (w2 : (Lit.int .i64 a2).wf = true) :
    Calls Try.prog 9 #[.agg #[.int .i64 a0x, .int .i64 a0y, .int .i64 a0z], .int .i64 a1, .int .i64 a2] w fun e w' => e = .returned (.bool true) ∧ Below w.heap.size w w' := by
  clear w0x w0y w0z w1 w2
  by_cases h1 : KeyOk a0x a0y a0z a1
  · have H1 := Lib.hid h1
    obtain ⟨c1, c2, c3, c4, c5, c6, c7, c8⟩ := h1
    have x1 := Int.emod_nonneg (a1 ^ a0y.toNat) (show a0x ≠ 0 by omega)
    have x2 := Int.emod_lt_of_pos (a1 ^ a0y.toNat) (show 0 < a0x by omega)
    by_cases h2 : KeyOk a0x a0y a0z a2
    · have H2 := Lib.hid h2
      obtain ⟨_, _, _, _, _, _, d7, d8⟩ := h2
      have y1 := Int.emod_nonneg (a2 ^ a0y.toNat) (show a0x ≠ 0 by omega)
      have y2 := Int.emod_lt_of_pos (a2 ^ a0y.toNat) (show 0 < a0x by omega)
      have z1 := Int.emod_nonneg (a1 * a2) (show a0x ≠ 0 by omega)
      have z2 := Int.emod_lt_of_pos (a1 * a2) (show 0 < a0x by omega)
      have o1 := Int.emod_nonneg 1 (show a0x ≠ 0 by omega)
      have o2 := Int.emod_lt_of_pos 1 (show 0 < a0x by omega)
      have H3 : Hid (KeyOk a0x a0y a0z (a1 * a2 % a0x)) := ⟨c1, c2, c3, c4, c5, c6, z1, z2⟩
      have H4 : Hid (KeyOk a0x a0y a0z (1 % a0x)) := ⟨c1, c2, c3, c4, c5, c6, o1, o2⟩
      have E3 := Lib.hid (pow_mul_mod a1 a2 a0x a0y.toNat)
      have E4 := Lib.hid (one_pow_mod a0x a0y.toNat)
      obtain ⟨x, hx⟩ : ∃ x, a1 ^ a0y.toNat % a0x = x := ⟨_, rfl⟩
      obtain ⟨y, hy⟩ : ∃ x, a2 ^ a0y.toNat % a0x = x := ⟨_, rfl⟩
      rw [hx] at x1 x2 E3
      rw [hy] at y1 y2 E3
      have HX := Lib.hid hx
      have HY := Lib.hid hy
      clear hx hy
      have p := mul_lim x1 (by omega) y1 (by omega)
      have q := mul_lim c7 (by omega) d7 (by omega)
      clear z1 z2 o1 o2
      go_enter Try.func9, Try.ntmps9
      go_wp2_with fail
      refine (rsa_Lock _ _ _ _ _ H1.out).mono ?_
      rintro e w1 ⟨rfl, hb1⟩
      rw [HX.out]
      have z1 := hb1.size
      simp at z1
      have k0 := kept hb1 (b := w.heap.size) (o := 0) (v := .int .i64 a0x) (by simp) (by simp)
      have k1 := kept hb1 (b := w.heap.size) (o := 1) (v := .int .i64 a0y) (by simp) (by simp)
      have k2 := kept hb1 (b := w.heap.size) (o := 2) (v := .int .i64 a0z) (by simp) (by simp)
      go_wp2_with fail
      refine (rsa_Lock _ _ _ _ _ H2.out).mono ?_
      rintro e w2 ⟨rfl, hb2⟩
      rw [HY.out]
      have z2 := hb2.size
      replace k0 := kept hb2 k0 (by omega)
      replace k1 := kept hb2 k1 (by omega)
      replace k2 := kept hb2 k2 (by omega)
      go_wp2_with fail
      have f1 : IntKind.i64.wrap (a1 * a2) = a1 * a2 := IntWalk.i64_in _ (by omega)
      have f2 : (a1 * a2).tmod a0x = a1 * a2 % a0x := Int.tmod_eq_emod_of_nonneg q.1
      have f3 : (a0x == 0) = false := by simp; omega
      have f4 : ¬ a0x = 0 := by omega
      go_region_held3 (fun w' => w'.cell? ⟨w.heap.size, 0, none⟩ = some (.int .i64 a0x) ∧ w'.cell? ⟨w.heap.size, 1, none⟩ = some (.int .i64 a0y) ∧ w'.cell? ⟨w.heap.size, 2, none⟩ = some (.int .i64 a0z))
        (first | go_keep | exact ⟨kept hb3 (by simpa using k0) (by simp; omega), kept hb3 (by simpa using k1) (by simp; omega), kept hb3 (by simpa using k2) (by simp; omega)⟩)
        (first | (go_at_call 25; refine (rsa_Lock _ _ _ _ _ H3.out).mono ?_; rintro e w3 ⟨rfl, hb3⟩))
      rw [E3.out]
      have z3 : w2.heap.size ≤ w3.heap.size := hb3.size
      replace k0 := kept hb3 (by simpa using k0) (show w.heap.size < w2.heap.size by omega)
      replace k1 := kept hb3 (by simpa using k1) (show w.heap.size < w2.heap.size by omega)
      replace k2 := kept hb3 (by simpa using k2) (show w.heap.size < w2.heap.size by omega)
      have f5 : Int.tmod 1 a0x = 1 % a0x := Int.tmod_eq_emod_of_nonneg (by omega)
      clear f1 f2
      go_wp2_with fail
      go_region_held3 (fun w' => w'.cell? ⟨w.heap.size, 0, none⟩ = some (.int .i64 a0x) ∧ w'.cell? ⟨w.heap.size, 1, none⟩ = some (.int .i64 a0y) ∧ w'.cell? ⟨w.heap.size, 2, none⟩ = some (.int .i64 a0z))
        (first | go_keep | exact ⟨kept hb4 (by simpa using k0) (by simp; omega), kept hb4 (by simpa using k1) (by simp; omega), kept hb4 (by simpa using k2) (by simp; omega)⟩)
        (first | (go_at_call 25; refine (rsa_Lock _ _ _ _ _ H4.out).mono ?_; rintro e w4 ⟨rfl, hb4⟩))
      rw [E4.out]
      have z4 : w3.heap.size ≤ w4.heap.size := hb4.size
      replace k0 := kept hb4 (by simpa using k0) (show w.heap.size < w3.heap.size by omega)
      go_wp2
      go_ret
      exact ⟨ret_bool (by simp), below_two (below_two (below_two (below_two ((Below.refl _ _).alloc (Nat.le_refl _) _) hb1) hb2).drew hb3).drew hb4⟩
    · have H2 := Lib.hid h2
      clear h2
      go_enter Try.func9, Try.ntmps9
      go_wp2_with fail
      refine (rsa_Lock _ _ _ _ _ H1.out).mono ?_
      rintro e w1 ⟨rfl, hb1⟩
      have z1 := hb1.size
      simp at z1
      have k0 := kept hb1 (b := w.heap.size) (o := 0) (v := .int .i64 a0x) (by simp) (by simp)
      have k1 := kept hb1 (b := w.heap.size) (o := 1) (v := .int .i64 a0y) (by simp) (by simp)
      have k2 := kept hb1 (b := w.heap.size) (o := 2) (v := .int .i64 a0z) (by simp) (by simp)
      go_wp2_with fail
      refine (rsa_Lock_no _ _ _ _ _ H2.out).mono ?_
      rintro e w2 ⟨rfl, hb2⟩
      have z2 := hb2.size
      replace k0 := kept hb2 k0 (by omega)
      replace k1 := kept hb2 k1 (by omega)
      replace k2 := kept hb2 k2 (by omega)
      go_wp2
      go_ret
      exact ⟨ret_bool (by simp), below_two (below_two ((Below.refl _ _).alloc (Nat.le_refl _) _) hb1) hb2⟩
  · have H1 := Lib.hid h1
    clear h1
    by_cases h2 : KeyOk a0x a0y a0z a2
    · have H2 := Lib.hid h2
      go_enter Try.func9, Try.ntmps9
      go_wp2_with fail
      refine (rsa_Lock_no _ _ _ _ _ H1.out).mono ?_
      rintro e w1 ⟨rfl, hb1⟩
      have z1 := hb1.size
      simp at z1
      have k0 := kept hb1 (b := w.heap.size) (o := 0) (v := .int .i64 a0x) (by simp) (by simp)
      have k1 := kept hb1 (b := w.heap.size) (o := 1) (v := .int .i64 a0y) (by simp) (by simp)
      have k2 := kept hb1 (b := w.heap.size) (o := 2) (v := .int .i64 a0z) (by simp) (by simp)
      go_wp2_with fail
      refine (rsa_Lock _ _ _ _ _ H2.out).mono ?_
      rintro e w2 ⟨rfl, hb2⟩
      have z2 := hb2.size
      replace k0 := kept hb2 k0 (by omega)
      replace k1 := kept hb2 k1 (by omega)
      replace k2 := kept hb2 k2 (by omega)
      go_wp2
      go_ret
      exact ⟨ret_bool (by simp), below_two (below_two ((Below.refl _ _).alloc (Nat.le_refl _) _) hb1) hb2⟩
    · have H2 := Lib.hid h2
      clear h2
      go_enter Try.func9, Try.ntmps9
      go_wp2_with fail
      refine (rsa_Lock_no _ _ _ _ _ H1.out).mono ?_
      rintro e w1 ⟨rfl, hb1⟩
      have z1 := hb1.size
      simp at z1
      have k0 := kept hb1 (b := w.heap.size) (o := 0) (v := .int .i64 a0x) (by simp) (by simp)
      have k1 := kept hb1 (b := w.heap.size) (o := 1) (v := .int .i64 a0y) (by simp) (by simp)
      have k2 := kept hb1 (b := w.heap.size) (o := 2) (v := .int .i64 a0z) (by simp) (by simp)
      go_wp2_with fail
      refine (rsa_Lock_no _ _ _ _ _ H2.out).mono ?_
      rintro e w2 ⟨rfl, hb2⟩
      have z2 := hb2.size
      replace k0 := kept hb2 k0 (by omega)
      replace k1 := kept hb2 k1 (by omega)
      replace k2 := kept hb2 k2 (by omega)
      go_wp2
      go_ret
      exact ⟨ret_bool (by simp), below_two (below_two ((Below.refl _ _).alloc (Nat.le_refl _) _) hb1) hb2⟩
end Go.Proofs.Ytfebomnblpamlaa
