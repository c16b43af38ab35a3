/- The contract of the reference's Bytes. -/
import Derived.Test.YtkodhpjmmiapaaaHOne
namespace Go.Proofs.Ytkodhpjmmiapaaa
open Go.RowKit
set_option linter.unusedVariables false
set_option linter.unusedSimpArgs false
theorem RowB.shape {W : World} {a : Option Addr} {c : Nat} {xs : List Nat} (h : RowB W a c xs) (hne : 0 < xs.length) :
    ∃ b o, a = some ⟨b, o, none⟩ ∧ ∀ (j : Nat) (x : Nat), xs[j]? = some x → W.cell? ⟨b, o + j, none⟩ = some (.int .u8 (x : Int)) := by
  rcases a with _ | ⟨b, o, s⟩
  · have := (h.1 rfl).1; subst this; simp at hne
  · have k0 := h.2 _ rfl 0 (.int .u8 ((xs[0] : Nat) : Int)) (by simp [byV, hne])
    have hs : s = none := by
      cases s with
      | none => rfl
      | some y =>
        simp [World.cell?, Addr.add] at k0
        split at k0 <;> simp at k0
    subst hs
    refine ⟨b, o, rfl, fun j x hx => ?_⟩
    have k := h.2 _ rfl j (.int .u8 (x : Int)) (by simp [byV, hx])
    by_cases hj : j = 0
    · subst hj; simpa [Addr.add] using k
    · simpa [Addr.add, hj] using k
set_option maxHeartbeats 1600000 in
theorem ref_Bytes (a b : Option Addr) (c d : Nat) (xs ys : List Nat) (w : World) (h1 : RowB w a c xs) (h2 : RowB w b d ys) (l1 : xs.length ≤ 1048576) (l2 : ys.length ≤ 1048576) (x1 : ∀ x ∈ xs, x < 256) (x2 : ∀ x ∈ ys, x < 256) :
    Calls Try.prog 15 #[.slice a xs.length c, .slice b ys.length d] w fun e w' => e = .returned (.bool (xs == ys)) ∧ Below w.heap.size w w' := by
  by_cases hl : xs.length = ys.length
  · obtain ⟨L, hL⟩ : ∃ L, L = xs.length := ⟨_, rfl⟩
    have HX := Lib.hid hL
    have HY : Hid (L = ys.length) := Lib.hid (hL.trans hl)
    rw [← hl]
    rw [← hL] at l1 ⊢
    clear hL hl l2
    have e1 : ((L : Int) == (L : Int)) = true := by simp
    have e2 : ((L : Int) != (L : Int)) = false := by simp
    go_enter Try.func15, Try.ntmps15
    go_wp2
    go_loopw [5] (fun i wr => ∃ I : Nat, i = .int .i64 I ∧ I ≤ L ∧ (∀ j, j < I → xs[j]? = ys[j]?) ∧ Below w.heap.size w wr) (fun i _ => L - (intOf i).toNat)
    case atStart => exact ⟨0, rfl, by omega, (fun j hj => absurd hj (Nat.not_lt_zero _)), Below.refl _ _⟩
    case round =>
      obtain ⟨I, rfl, hI, hp, hb⟩ := hrel
      by_cases hlt : I < L
      · obtain ⟨x, hx⟩ : ∃ x, xs[I]? = some x := ⟨_, List.getElem?_eq_getElem (by rw [← HX.out]; exact hlt)⟩
        obtain ⟨y, hy⟩ : ∃ x, ys[I]? = some x := ⟨_, List.getElem?_eq_getElem (by rw [← HY.out]; exact hlt)⟩
        obtain ⟨b1, o1, rfl, hc1⟩ := (h1.below hb (Nat.le_refl _)).shape (by rw [← HX.out]; omega)
        obtain ⟨b2, o2, rfl, hc2⟩ := (h2.below hb (Nat.le_refl _)).shape (by rw [← HY.out]; omega)
        have k1 := hc1 I x hx
        have k2 := hc2 I y hy
        have HPx := Lib.hid hx
        have HPy := Lib.hid hy
        clear hx hy hc1 hc2
        by_cases hxy : x = y
        · subst hxy
          have n1 : ((x : Int) != (x : Int)) = false := by simp
          go_wp2_with fail
          go_quiet (fail)
          go_wp2
          go_round
          case rel => exact ⟨I + 1, by go_num, by omega, (fun j hj => by
            by_cases e : j = I
            · subst e; rw [HPx.out, HPy.out]
            · exact hp j (by omega)), below_drewN hb _⟩
          case measure => simp [intOf]; omega
        · have n1 : ((x : Int) == (y : Int)) = false := by simp; omega
          have n2 : ((x : Int) != (y : Int)) = true := by simp; omega
          have n3 : ¬ (x : Int) = y := by omega
          go_wp2_with fail
          go_quiet (fail)
          go_wp2
          go_ret
          refine ⟨ret_bool ?_, below_drewN hb _⟩
          symm
          rw [beq_eq_false_iff_ne]
          intro e
          have := HPx.out
          rw [e, HPy.out] at this
          exact hxy (Option.some.inj this).symm
      · go_wp2
        go_ret
        refine ⟨ret_bool ?_, hb⟩
        symm
        rw [beq_iff_eq]
        apply List.ext_getElem?
        intro j
        by_cases hj : j < L
        · exact hp j (by omega)
        · rw [List.getElem?_eq_none (by have := HX.out; omega), List.getElem?_eq_none (by have := HY.out; omega)]
  · have HF : Hid ((xs == ys) = false) := Lib.hid (by rw [beq_eq_false_iff_ne]; intro e; exact hl (by rw [e]))
    obtain ⟨L, hL⟩ : ∃ L, L = xs.length := ⟨_, rfl⟩
    obtain ⟨M, hM⟩ : ∃ L, L = ys.length := ⟨_, rfl⟩
    rw [← hL, ← hM] at hl ⊢
    have n1 : ((L : Int) == (M : Int)) = false := by simp; omega
    have n2 : ((L : Int) != (M : Int)) = true := by simp; omega
    have n3 : ¬ (L : Int) = M := by omega
    clear hL hM
    go_enter Try.func15, Try.ntmps15
    go_wp2
    go_ret
    exact ⟨ret_bool HF.out.symm, Below.refl _ _⟩
end Go.Proofs.Ytkodhpjmmiapaaa
