/- The walk of the statement HashOne. -/
import Derived.Test.YtpikjahgnnejmaaByt
import Derived.ArgAppend
namespace Go.Proofs.Ytpikjahgnnejmaa
open Go.RowKit
set_option linter.unusedVariables false
set_option linter.unusedSimpArgs false
theorem wf16 {a : Int} (h : (Lit.int .u16 a).wf = true) : 0 ≤ a ∧ a ≤ 65535 := by
  simpa [Lit.wf, IntKind.min, IntKind.max, IntKind.signed, go_sem] using h
set_option maxRecDepth 20000 in
set_option maxHeartbeats 3200000 in
theorem WHashOne (a0 : Option Addr) (len0 cap0 : Nat) (z0 : List Int) (a1 : Int) (a2 : Int) (w : World) (w0 : IsRow .u8 w a0 len0 cap0 z0) (w1 : (Lit.int .u16 a1).wf = true) (w2 : (Lit.int .u8 a2).wf = true) :
    Calls Try.prog 4 #[.slice a0 len0 cap0, .int .u16 a1, .int .u8 a2] w fun e w' => e = .returned (.bool true) ∧ Below w.heap.size w w' := by
  obtain ⟨xs, hlen, hrow, hxs, hmax⟩ := w0.bytes
  have k1 := wf16 w1
  have x1 := wf8 w2
  clear w0 w1 w2
  by_cases hbig : 4096 < len0
  · have d1 : decide (4096 < (len0 : Int)) = true := decide_eq_true (by omega)
    clear hrow hxs hlen
    go_enter Try.func4, Try.ntmps4
    go_wp2_with fail
    refine (hash_Sum_no a0 cap0 len0 _ hbig).mono ?_
    rintro e w1 ⟨rfl, rfl⟩
    go_wp2
    go_ret
    exact ⟨ret_bool (by simp), Below.refl _ _⟩
  · have d1 : decide (4096 < (len0 : Int)) = false := decide_eq_false (by omega)
    subst hlen
    have HS := Lib.hid fun w' (hb : Below w.heap.size w w') => hash_Sum a0 cap0 xs w' (hrow.below hb (Nat.le_refl _)) (by omega) hxs
    by_cases hz : xs.length = 0
    · obtain rfl : xs = [] := List.length_eq_zero_iff.1 hz
      clear hrow hxs
      go_enter Try.func4, Try.ntmps4
      go_wp2_with fail
      refine (HS.out _ (Below.refl _ _)).mono ?_
      rintro e w1 ⟨rfl, hb1⟩
      go_wp2
      go_ret
      exact ⟨ret_bool (by simp), hb1⟩
    · obtain ⟨blk, off, rfl, hcell⟩ := hrow.shape (by omega)
      obtain ⟨i0, hi, hz0, hz1, hz2⟩ := info_parts byte_info
      have hu : Try.prog.underlying 26 = some (.slice 5) := by kernel_rfl
      obtain ⟨L, hL⟩ : ∃ L, L = xs.length := ⟨_, rfl⟩
      have HL := Lib.hid hL
      have HR := Lib.hid hrow
      have HX := Lib.hid hxs
      have HC := Lib.hid hcell
      rw [← hL] at HS hz hbig d1 ⊢
      have e1 : ((L : Int) == 0) = false := by simp; omega
      obtain ⟨I, hI1, hI2⟩ : ∃ I : Nat, Int.tmod a1 (L : Int) = (I : Int) ∧ I < L := by
        have b1 := Int.emod_nonneg a1 (show (L : Int) ≠ 0 by omega)
        have b2 := Int.emod_lt_of_pos a1 (show 0 < (L : Int) by omega)
        exact ⟨(a1 % L).toNat, by rw [Int.tmod_eq_emod_of_nonneg k1.1]; omega, by omega⟩
      have n0 : ¬ L = 0 := hz
      have n1 : ((L : Int) == 0) = false := e1
      clear hL hrow hxs hcell
      go_enter Try.func4, Try.ntmps4
      go_wp2_with fail
      refine (HS.out _ (Below.refl _ _)).mono ?_
      rintro e w1 ⟨rfl, hb1⟩
      have hrow1 := HR.out.below hb1 (Nat.le_refl _)
      have hB1 : Below w1.heap.size w1 (w1.alloc (.cells #[] 5)) := (Below.refl _ _).alloc (Nat.le_refl _) _
      have hrow2 := hrow1.below hB1 (Nat.le_refl _)
      go_wp2_with (first
        | (at_builtin; refine wpList_append_grows _ rfl _ _ 26 rfl 5 i0 (.int .u8 0) 1 1 hu hi hz0 hz1 hz2 rfl (by decide) (some ⟨w1.heap.size, 0, none⟩) 0 0 [] rfl (fun e => by cases e) rfl (fun b e j u hj => by simp at hj) ⟨blk, off, none⟩ L cap0 (byV xs) rfl (by rw [byV_len, Nat.mul_one]; exact HL.out.symm) (hrow2.2 _ rfl) (byV_one xs) (by omega) (by unfold maxLen; omega) (by omega) ?_; intro v' w2 hown' hg2
           obtain ⟨g, cap', cur, rfl, hg1, hgb, hg3, hg4, hg5, hg6⟩ : ∃ g cap' cur, v' = .slice (some ⟨g, 0, none⟩) L cap' ∧ w1.heap.size + 1 ≤ g ∧ w2.heap[g]? = some (.cells cur 5 (0, 0)) ∧ L ≤ cap' ∧ cap' ≤ maxLen ∧ cur.size = cap' * 1 ∧ cur.toList.take (L * 1) = byV xs := by
             rcases hown'.2 with ⟨_, h0⟩ | h'
             · exact absurd h0 (by omega)
             · simpa using h'
           have cI : w2.cell? ⟨g, I, none⟩ = cur[I]? := by simp [World.cell?, hgb]
           have cI2 : ∃ u, cur[I]? = some u := ⟨_, Array.getElem?_eq_getElem (by omega)⟩
           obtain ⟨u, hu2⟩ := cI2
           rw [hu2] at cI
           have fI : w2.frozen? ⟨g, I, none⟩ = false := by simp [World.frozen?, hgb]))
      have zg : g < w2.heap.size := (Array.getElem?_eq_some_iff.1 hgb).1
      have hB2 : Below w1.heap.size w1 w2 := hB1.grown hg2 (by simp) (fun j hj => by cases hj)
      have hB3 : Below w1.heap.size w1 (w2.setCell ⟨g, I, none⟩ (.int .u8 a2)) := hB2.setCell (p := ⟨g, I, none⟩) (by show w1.heap.size ≤ g; omega) _
      obtain ⟨X, hX⟩ : ∃ X : Nat, a2 = X := ⟨a2.toNat, by omega⟩
      subst hX
      have hrow3 := hrow1.below hB3 (Nat.le_refl _)
      have hx := HL.out
      have hrowb : RowB (w2.setCell ⟨g, I, none⟩ (.int .u8 (X : Int))) (some ⟨g, 0, none⟩) cap' (xs.set I X) := by
        refine ⟨fun e => (by cases e), fun ad e j u hj => ?_⟩
        cases e
        rw [add_at]
        have hjl : j < L := by
          have := (List.getElem?_eq_some_iff.1 hj).1
          rw [byV_len, List.length_set] at this; omega
        have hcj : w2.cell? ⟨g, j, none⟩ = (byV xs)[j]? := by
          rw [← hg6, List.getElem?_take, if_pos (by omega)]
          simp [World.cell?, hgb]
        by_cases hji : j = I
        · subst hji
          have : u = .int .u8 (X : Int) := by
            simp [byV, List.getElem?_set, show j < xs.length by omega] at hj
            exact hj.symm
          rw [this]
          exact World.cell?_setCell_same' _ _ _ (by simp [cI])
        · have hgj : (⟨g, I, none⟩ : Addr) ≠ ⟨g, j, none⟩ := fun e => hji (by injection e with _ e2 _; exact e2.symm)
          rw [World.cell?_setCell_other (a := (⟨g, I, none⟩ : Addr)) (b := (⟨g, j, none⟩ : Addr)) (h := hgj), hcj]
          simp [byV, List.getElem?_set, show ¬ I = j by omega] at hj ⊢
          exact hj
      have hyl : (xs.set I X).length = L := by rw [List.length_set]; exact hx.symm
      have hyx : ∀ y ∈ xs.set I X, y < 256 := fun y hy => by
        rcases List.mem_or_eq_of_mem_set hy with h | h
        · exact HX.out y h
        · omega
      have HSB := Lib.hid (hash_Sum (some ⟨g, 0, none⟩) cap' (xs.set I X) _ hrowb (by omega) hyx)
      rw [hyl] at HSB
      have hfin : (((sumN xs : Nat) : Int) == ((sumN (xs.set I X) : Nat) : Int)) = (xs == xs.set I X) := by
        have h := sum_set (x := X) (by omega : I < xs.length) (by omega) HX.out
        by_cases e : xs = xs.set I X
        · rw [show (xs == xs.set I X) = true by rw [beq_iff_eq]; exact e, ← e]; simp
        · have e' : ¬ sumN xs = sumN (xs.set I X) := fun k => e (h.1 k)
          rw [show (xs == xs.set I X) = false by rw [beq_eq_false_iff_ne]; exact e, beq_eq_false_iff_ne]
          omega
      obtain ⟨w3, hw3⟩ : ∃ W, W = w2.setCell ⟨g, I, none⟩ (.int .u8 (X : Int)) := ⟨_, rfl⟩
      rw [← hw3] at hrow3 hrowb HSB hB3 ⊢
      clear hw3 hown' cI fI hu2 hgb hg6
      refine HSB.out.mono ?_
      rintro e w4 ⟨rfl, hb4⟩
      have r1 := hrow3.below hb4 (Nat.le_refl _)
      have r2 := hrowb.below hb4 (Nat.le_refl _)
      have HBy := Lib.hid (ref_Bytes _ _ cap0 cap' xs (xs.set I X) w4 r1 r2 (by omega) (by omega) HX.out hyx)
      rw [hyl, ← hx] at HBy
      obtain ⟨B, hB⟩ : ∃ B, (xs == xs.set I X) = B := ⟨_, rfl⟩
      rw [hB] at HBy hfin
      obtain ⟨S, hS⟩ : ∃ S : Int, ((sumN xs : Nat) : Int) = S := ⟨_, rfl⟩
      obtain ⟨T, hT⟩ : ∃ S : Int, ((sumN (xs.set I X) : Nat) : Int) = S := ⟨_, rfl⟩
      rw [hS, hT] at hfin
      rw [hS, hT]
      clear r1 r2 hrow3 hrowb HSB hyx hyl hB hS hT hx hrow1 hrow2 hg1 hg3 hg4 hg5 zg hB1 hB2 hg2 hI1 hI2 HL HR HX HC hi hz0 hz1 hz2 hu x1 k1 hmax
      go_wp2_with fail
      refine HBy.out.mono ?_
      rintro e w5 ⟨rfl, hb5⟩
      go_wp2
      go_ret
      exact ⟨ret_bool (by simp [hfin]), below_two (below_two (below_two hb1 hB3) hb4) hb5⟩
end Go.Proofs.Ytpikjahgnnejmaa
