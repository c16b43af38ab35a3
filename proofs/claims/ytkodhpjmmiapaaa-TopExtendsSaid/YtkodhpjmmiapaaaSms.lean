/- The contract of shake.sums. -/
import Derived.Test.YtkodhpjmmiapaaaTxt
import Derived.ArgAppend
namespace Go.Proofs.Ytkodhpjmmiapaaa
open Go.RowKit
set_option linter.unusedVariables false
set_option linter.unusedSimpArgs false
set_option maxRecDepth 20000 in
set_option maxHeartbeats 3200000 in
theorem shake_sums (a : Option Addr) (c : Nat) (xs : List Nat) (w : World) (h : RowB w a c xs) (h0 : 1 ≤ xs.length) (hl : xs.length ≤ 4096) (hx : ∀ x ∈ xs, x < 256) :
    Calls Try.prog 36 #[.slice a xs.length c] w fun e w' => e = .returned (.tuple #[.int .i64 (sumN (1 :: xs)), .int .i64 (sumN (2 :: xs))]) ∧ Below w.heap.size w w' := by
  obtain ⟨L, hL⟩ : ∃ L, L = xs.length := ⟨_, rfl⟩
  rw [← hL] at h0 hl ⊢
  have HL := Lib.hid hL
  have HX := Lib.hid hx
  have HR := Lib.hid h
  clear hL hx
  obtain ⟨i0, hi, hz0, hz1, hz2⟩ := info_parts byte_info
  have hu : Try.prog.underlying 31 = some (.slice 5) := by kernel_rfl
  rcases a with _ | ad
  · have := (h.1 rfl).1; subst this; have := HL.out; simp at this; omega
  · clear h
    go_enter Try.func36, Try.ntmps36
    go_wp2_with (first
      | (at_builtin; refine wpList_append_grows _ rfl _ _ 31 rfl 5 i0 (.int .u8 0) 1 1 hu hi hz0 hz1 hz2 rfl (by decide) (some ⟨w.heap.size, 0, none⟩) 1 1 [.int .u8 1] rfl (fun e => by cases e) rfl (fun b e j u hj => by cases e; exact cell_one_new _ _ _ j u hj) ad L c (byV xs) rfl (by rw [byV_len, Nat.mul_one]; exact HL.out.symm) ((HR.out.below ((Below.refl _ w).alloc (Nat.le_refl _) (.cells #[.int .u8 1] 5)) (Nat.le_refl _)).2 ad rfl) (byV_one xs) (by omega) (by unfold maxLen; omega) (by omega) ?_; intro v' w1 hown' hg2
         obtain ⟨a2, c2', rfl, h2, _⟩ : ∃ a c, v' = .slice a (1 :: xs).length c ∧ RowB w1 a c (1 :: xs) ∧ ∀ ad, a = some ad → ∃ g, ad = ⟨g, 0, none⟩ := own_rowB (by rw [List.length_cons, ← HL.out, Nat.add_comm]; exact hown')
         have hbb : Below w.heap.size w w1 := ((Below.refl _ w).alloc (Nat.le_refl _) _).grown hg2 (by simp) (fun j hj => by cases hj)
         rw [List.length_cons, ← HL.out])
      | fail)
    have HO1 := hash_Of a2 c2' (1 :: xs) w1 h2 (by rw [List.length_cons, ← HL.out]; omega) (fun x hx => by
      rcases List.mem_cons.1 hx with rfl | hx
      · omega
      · exact HX.out x hx)
    rw [List.length_cons, ← HL.out] at HO1
    refine HO1.mono ?_
    rintro e w2 ⟨rfl, hb2⟩
    have hr2 := (HR.out.below hbb (Nat.le_refl _)).below hb2 (Nat.le_refl _)
    have hB2 := below_two hbb hb2
    clear hbb hb2 h2 hown' hg2 HO1
    go_wp2_with (first
      | (at_builtin; refine wpList_append_grows _ rfl _ _ 31 rfl 5 i0 (.int .u8 0) 1 1 hu hi hz0 hz1 hz2 rfl (by decide) (some ⟨w2.heap.size, 0, none⟩) 1 1 [.int .u8 2] rfl (fun e => by cases e) rfl (fun b e j u hj => by cases e; exact cell_one_new _ _ _ j u hj) ad L c (byV xs) rfl (by rw [byV_len, Nat.mul_one]; exact HL.out.symm) ((hr2.below ((Below.refl _ w2).alloc (Nat.le_refl _) (.cells #[.int .u8 2] 5)) (Nat.le_refl _)).2 ad rfl) (byV_one xs) (by omega) (by unfold maxLen; omega) (by omega) ?_; intro v' w3 hown' hg2
         obtain ⟨a2, c2', rfl, h2, _⟩ : ∃ a c, v' = .slice a (2 :: xs).length c ∧ RowB w3 a c (2 :: xs) ∧ ∀ ad, a = some ad → ∃ g, ad = ⟨g, 0, none⟩ := own_rowB (by rw [List.length_cons, ← HL.out, Nat.add_comm]; exact hown')
         have hbb : Below w2.heap.size w2 w3 := ((Below.refl _ w2).alloc (Nat.le_refl _) _).grown hg2 (by simp) (fun j hj => by cases hj)
         rw [List.length_cons, ← HL.out])
      | fail)
    have HO2 := hash_Of a2 c2' (2 :: xs) w3 h2 (by rw [List.length_cons, ← HL.out]; omega) (fun x hx => by
      rcases List.mem_cons.1 hx with rfl | hx
      · omega
      · exact HX.out x hx)
    rw [List.length_cons, ← HL.out] at HO2
    refine HO2.mono ?_
    rintro e w4 ⟨rfl, hb4⟩
    clear hown' hg2 HO2 h2
    go_wp2
    go_ret2
    have q1 := fold_lt (padN (1 :: xs)) 0 (by omega)
    have q2 := fold_lt (padN (2 :: xs)) 0 (by omega)
    have r1 : wrap64 ((sumN (1 :: xs) : Nat) : Int) = ((sumN (1 :: xs) : Nat) : Int) := by
      have : sumN (1 :: xs) < 65536 := q1
      unfold wrap64; omega
    have r2 : wrap64 ((sumN (2 :: xs) : Nat) : Int) = ((sumN (2 :: xs) : Nat) : Int) := by
      have : sumN (2 :: xs) < 65536 := q2
      unfold wrap64; omega
    rw [r1, r2]
    exact ⟨rfl, below_two (below_two hB2 hbb) hb4⟩
end Go.Proofs.Ytkodhpjmmiapaaa
