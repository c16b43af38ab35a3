/- The contracts of slices.Clone and slices.Equal at bytes. -/
import Derived.Test.YtkodhpjmmiapaaaByt
import Derived.ArgAppend
import Derived.WalkSpells
namespace Go.Proofs.Ytkodhpjmmiapaaa
open Go.RowKit
set_option linter.unusedVariables false
set_option linter.unusedSimpArgs false
set_option maxRecDepth 20000 in
set_option maxHeartbeats 1600000 in
theorem slices_Clone (a : Option Addr) (c : Nat) (xs : List Nat) (w : World) (h : RowB w a c xs) (hl : xs.length ≤ 1048000) :
    Calls Try.prog 46 #[.slice a xs.length c] w fun e w' => ∃ v, e = .returned v ∧ Below w.heap.size w w' ∧ w'.ownsRow w.heap.size 5 1 v xs.length (byV xs) := by
  obtain ⟨i0, hi, hz0, hz1, hz2⟩ := info_parts byte_info
  have hu : Try.prog.underlying 31 = some (.slice 5) := by kernel_rfl
  have hnil := fun (w : World) (a : Option Addr) (n c n' c' : Nat) => Lib.run_eql_slice_nil (P := Try.prog) w 31 5 a n c n' c' hu
  obtain ⟨L, hL⟩ : ∃ L, L = xs.length := ⟨_, rfl⟩
  have HL := Lib.hid hL
  have HR := Lib.hid h
  rw [← hL] at hl ⊢
  rcases a with _ | ad
  · have h0 := (h.1 rfl).1
    subst h0
    obtain rfl : L = 0 := by rw [hL]; rfl
    clear h hL
    go_enter Try.func46, Try.ntmps46
    go_wp2
    go_ret
    exact ⟨_, rfl, Below.refl _ _, World.ownsRow_nil _ _ _ _⟩
  · clear h hL
    have hB : Below w.heap.size w (w.alloc (.cells #[] 5)) := (Below.refl _ _).alloc (Nat.le_refl _) _
    have HR2 := Lib.hid (HR.out.below hB (Nat.le_refl _))
    by_cases h0 : L = 0
    · subst h0
      have hx : xs = [] := List.length_eq_zero_iff.1 HL.out.symm
      go_enter Try.func46, Try.ntmps46
      go_wp2_with (first
        | (at_builtin; refine wpList_append_fits_any _ rfl _ _ 31 rfl w.heap.size 5 i0 1 hu hi hz1 w.heap.size 0 0 [] rfl (World.ownsRow_made _ _ _ (Nat.le_refl _) (Nat.zero_le _) (by simp)) (some ad) 0 c [] rfl (by simp) (fun e => by cases e) (fun ad e j u hj => by simp at hj) (by simp) (by omega) ?_; intro w2 hown' hg2))
      go_ret
      refine ⟨_, rfl, hB.grown hg2 (by simp) (fun j hj => by cases hj; omega), ?_⟩
      rw [hx]
      exact hown'
    · go_enter Try.func46, Try.ntmps46
      go_wp2_with (first
        | (at_builtin; refine wpList_append_grows _ rfl _ _ 31 rfl 5 i0 (.int .u8 0) 1 1 hu hi hz0 hz1 hz2 rfl (by decide) (some ⟨w.heap.size, 0, none⟩) 0 0 [] rfl (fun e => by cases e) rfl (fun b e j u hj => by simp at hj) ad L c (byV xs) rfl (by rw [byV_len, Nat.mul_one]; exact HL.out.symm) (HR2.out.2 _ rfl) (byV_one xs) (by omega) (by unfold maxLen; omega) (by omega) ?_; intro v' w2 hown' hg2))
      go_ret
      refine ⟨v', rfl, hB.grown hg2 (by simp) (fun j hj => by cases hj), ?_⟩
      refine own_lower ?_ (show w.heap.size ≤ w.heap.size + 1 by omega)
      simpa using hown'
set_option maxHeartbeats 1600000 in
theorem slices_Equal (a b : Option Addr) (c d : Nat) (xs ys : List Nat) (w : World) (h1 : RowB w a c xs) (h2 : RowB w b d ys) (l1 : xs.length ≤ 1048576) (l2 : ys.length ≤ 1048576) :
    Calls Try.prog 43 #[.slice a xs.length c, .slice b ys.length d] w fun e w' => e = .returned (.bool (xs == ys)) ∧ Below w.heap.size w w' := by
  by_cases hl : xs.length = ys.length
  · obtain ⟨L, hL⟩ : ∃ L, L = xs.length := ⟨_, rfl⟩
    have HX := Lib.hid hL
    have HY : Hid (L = ys.length) := Lib.hid (hL.trans hl)
    rw [← hl]
    rw [← hL] at l1 ⊢
    clear hL hl l2
    have e1 : ((L : Int) == (L : Int)) = true := by simp
    have e2 : ((L : Int) != (L : Int)) = false := by simp
    go_enter Try.func43, Try.ntmps43
    go_wp2
    go_loopw [13] (fun i wr => ∃ I : Nat, i = .int .i64 I ∧ I ≤ L ∧ (∀ j, j < I → xs[j]? = ys[j]?) ∧ Below w.heap.size w wr) (fun i _ => L - (intOf i).toNat)
    case atStart => exact ⟨0, rfl, by omega, (fun j hj => absurd hj (Nat.not_lt_zero _)), Below.refl _ _⟩
    case round =>
      obtain ⟨I, rfl, hI, hp, hb⟩ := hrel
      by_cases hlt : I < L
      · obtain ⟨x, hx⟩ : ∃ x, xs[I]? = some x := ⟨_, List.getElem?_eq_getElem (by rw [← HX.out]; exact hlt)⟩
        obtain ⟨y, hy⟩ : ∃ x, ys[I]? = some x := ⟨_, List.getElem?_eq_getElem (by rw [← HY.out]; exact hlt)⟩
        obtain ⟨b1, o1, rfl, hc1⟩ := (h1.below hb (Nat.le_refl _)).shape (by rw [← HX.out]; omega)
        obtain ⟨b2, o2, rfl, hc2⟩ := (h2.below hb (Nat.le_refl _)).shape (by rw [← HY.out]; omega)
        have k1 := hc1 I x hx
        have k2 := hc2 I y hy
        have HPx := Lib.hid hx
        have HPy := Lib.hid hy
        clear hx hy hc1 hc2
        by_cases hxy : x = y
        · subst hxy
          have n1 : ((x : Int) != (x : Int)) = false := by simp
          go_wp2_with fail
          go_quiet (fail)
          go_wp2
          go_round
          case rel => exact ⟨I + 1, by go_num, by omega, (fun j hj => by
            by_cases e : j = I
            · subst e; rw [HPx.out, HPy.out]
            · exact hp j (by omega)), below_drewN hb _⟩
          case measure => simp [intOf]; omega
        · have n1 : ((x : Int) == (y : Int)) = false := by simp; omega
          have n2 : ((x : Int) != (y : Int)) = true := by simp; omega
          have n3 : ¬ (x : Int) = y := by omega
          go_wp2_with fail
          go_quiet (fail)
          go_wp2
          go_ret
          refine ⟨ret_bool ?_, below_drewN hb _⟩
          symm
          rw [beq_eq_false_iff_ne]
          intro e
          have := HPx.out
          rw [e, HPy.out] at this
          exact hxy (Option.some.inj this).symm
      · go_wp2
        go_ret
        refine ⟨ret_bool ?_, hb⟩
        symm
        rw [beq_iff_eq]
        apply List.ext_getElem?
        intro j
        by_cases hj : j < L
        · exact hp j (by omega)
        · rw [List.getElem?_eq_none (by have := HX.out; omega), List.getElem?_eq_none (by have := HY.out; omega)]
  · have HF : Hid ((xs == ys) = false) := Lib.hid (by rw [beq_eq_false_iff_ne]; intro e; exact hl (by rw [e]))
    obtain ⟨L, hL⟩ : ∃ L, L = xs.length := ⟨_, rfl⟩
    obtain ⟨M, hM⟩ : ∃ L, L = ys.length := ⟨_, rfl⟩
    rw [← hL, ← hM] at hl ⊢
    have n1 : ((L : Int) == (M : Int)) = false := by simp; omega
    have n2 : ((L : Int) != (M : Int)) = true := by simp; omega
    have n3 : ¬ (L : Int) = M := by omega
    clear hL hM
    go_enter Try.func43, Try.ntmps43
    go_wp2
    go_ret
    exact ⟨ret_bool HF.out.symm, Below.refl _ _⟩
end Go.Proofs.Ytkodhpjmmiapaaa
