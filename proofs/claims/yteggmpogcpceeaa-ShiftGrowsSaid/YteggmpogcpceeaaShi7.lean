/- Contracts: shift.Short; makes. -/
import Derived.Test.YteggmpogcpceeaaShi6
import Derived.Test.YteggmpogcpceeaaShi4
namespace Go.Proofs.Yteggmpogcpceeaa
open Go.RowKit
set_option linter.unusedVariables false
set_option linter.unusedSimpArgs false
set_option maxHeartbeats 1600000 in
theorem shift_Short_long (a : Option Addr) (c N : Nat) (w : World) (hl : 64 < N) :
    Calls Try.prog 6 #[.slice a N c] w fun e w' => e = .returned (.tuple #[.slice none 0 0, .int .i64 1]) ∧ w = w' := by
  have d1 : decide (64 < (N : Int)) = true := decide_eq_true (by omega)
  go_enter Try.func6, Try.ntmps6
  go_wp2
  go_ret2
  exact ⟨rfl, rfl⟩
set_option maxHeartbeats 1600000 in
theorem shift_Short (a : Option Addr) (c : Nat) (xs : List Bool) (w : World) (h : RowT w a c xs) (hl : xs.length ≤ 64) :
    Calls Try.prog 6 #[.slice a xs.length c] w fun e w' => (∃ (a' : Option Addr) (c' L T : Nat), e = .returned (.tuple #[.slice a' L c', .int .i64 0]) ∧ RowT w' a' c' ((List.range L).map fun i => Nat.testBit T i) ∧ Sh.Mk (fun i => Nat.testBit T i) L (fun i => xs.getD i false) xs.length ∧ ∃ C B k, Sh.Inv (fun i => xs.getD i false) xs.length C B L k) ∧ Below w.heap.size w w' := by
  have HM := Lib.hid (shift_massey a c xs w h hl)
  have HL := Lib.hid fun W L hb hL hex => shift_least a c L xs W (h.below (B := w.heap.size) hb (Nat.le_refl _)) hl hL hex
  obtain ⟨N, hN⟩ : ∃ N, N = xs.length := ⟨_, rfl⟩
  rw [← hN] at hl HM HL ⊢
  clear h hN
  have d1 : decide (64 < (N : Int)) = false := decide_eq_false (by omega)
  go_enter Try.func6, Try.ntmps6
  go_wp2_with fail
  refine HM.out.mono ?_
  rintro e w1 ⟨⟨u, L, rfl, C, B, k, hI⟩, hb1⟩
  have HI := Lib.hid hI
  have HC := Lib.hid (HL.out w1 L hb1 hI.le ⟨_, hI.mk'⟩)
  clear hI
  go_wp2_with fail
  refine HC.out.mono ?_
  rintro e w2 ⟨⟨a', c', T, rfl, hrow, hmk⟩, hb2⟩
  go_wp2
  go_ret2
  exact ⟨⟨a', c', L, T, rfl, hrow, hmk, C, B, k, HI.out⟩, below_two hb1 hb2⟩
/-- do taps make a list? -/
def mkB (xs ys : List Bool) : Bool := decide (xs.length ≤ ys.length) && (Sh.runP (fun i => xs.getD i false) (fun i => ys.getD i false) xs.length ys.length == ys)
theorem mkB_iff {xs ys : List Bool} : mkB xs ys = true ↔ xs.length ≤ ys.length ∧ Sh.Mk (fun i => xs.getD i false) xs.length (fun i => ys.getD i false) ys.length := by
  unfold mkB
  rw [Bool.and_eq_true, decide_eq_true_eq, beq_iff_eq]
  have hy : (List.range ys.length).map (fun i => ys.getD i false) = ys := by
    apply List.ext_getElem?
    intro i
    by_cases hi : i < ys.length
    · rw [List.getElem?_map, List.getElem?_range hi, List.getElem?_eq_getElem hi]
      simp [List.getD_eq_getElem?_getD, List.getElem?_eq_getElem hi]
    · rw [List.getElem?_eq_none (by simp; omega), List.getElem?_eq_none (by omega)]
  have := Sh.runP_iff (t := fun i => xs.getD i false) (f := fun i => ys.getD i false) (s := fun i => ys.getD i false) (L := xs.length) (fun _ _ => rfl) ys.length
  rw [hy] at this
  rw [this]
theorem take_getD (ys : List Bool) (L n : Nat) (t : Nat → Bool) : Sh.runP t (fun i => (ys.take L).getD i false) L n = Sh.runP t (fun i => ys.getD i false) L n := by
  induction n with
  | zero => rfl
  | succ n ih =>
    show Sh.runP t _ L n ++ [Sh.runB t _ L n (Sh.runP t _ L n)] = Sh.runP t _ L n ++ [Sh.runB t _ L n (Sh.runP t _ L n)]
    rw [ih]
    congr 2
    unfold Sh.runB
    by_cases c : n < L
    · rw [if_pos c, if_pos c]
      simp [List.getD_eq_getElem?_getD, List.getElem?_take, c]
    · rw [if_neg c, if_neg c]
set_option maxHeartbeats 1600000 in
theorem keep_makes (a b : Option Addr) (c d : Nat) (xs ys : List Bool) (w : World) (h1 : RowT w a c xs) (h2 : RowT w b d ys) (l1 : xs.length ≤ 9223372036854775807) (l2 : ys.length ≤ 64) (hd : d ≤ maxLen) :
    Calls Try.prog 7 #[.slice a xs.length c, .slice b ys.length d] w fun e w' => e = .returned (.bool (mkB xs ys)) ∧ Below w.heap.size w w' := by
  by_cases hle : xs.length ≤ ys.length
  · have HR : Hid (∀ W, Below w.heap.size w W → Calls Try.prog 12 #[.slice a xs.length c, .slice b xs.length d, .int .i64 ys.length] W fun e w' => (∃ a' c', e = .returned (.slice a' ys.length c') ∧ RowT w' a' c' (Sh.runP (fun i => xs.getD i false) (fun i => ys.getD i false) xs.length ys.length)) ∧ Below W.heap.size W w') := Lib.hid fun W hb => by
      have hlt : (ys.take xs.length).length = xs.length := by rw [List.length_take]; omega
      have := ref_Run a b c d ys.length xs (ys.take xs.length) W (h1.below (B := w.heap.size) hb (Nat.le_refl _)) ((h2.take _).below (B := w.heap.size) hb (Nat.le_refl _)) hlt.symm hle l2
      rw [hlt, take_getD] at this
      exact this
    have hrl := Sh.runP_len (fun i => xs.getD i false) (fun i => ys.getD i false) xs.length ys.length
    have hv : mkB xs ys = (Sh.runP (fun i => xs.getD i false) (fun i => ys.getD i false) xs.length ys.length == ys) := by
      unfold mkB; rw [decide_eq_true hle, Bool.true_and]
    obtain ⟨r, hr⟩ : ∃ r, Sh.runP (fun i => xs.getD i false) (fun i => ys.getD i false) xs.length ys.length = r := ⟨_, rfl⟩
    rw [hr] at HR hrl hv
    rw [hv]
    have HB : Hid (∀ W a' c', Below w.heap.size w W → RowT W a' c' r → Calls Try.prog 8 #[.slice a' ys.length c', .slice b ys.length d] W fun e w' => e = .returned (.bool (r == ys)) ∧ Below W.heap.size W w') := Lib.hid fun W a' c' hb hrow => by
      have := ref_Bools a' b c' d r ys W hrow (h2.below (B := w.heap.size) hb (Nat.le_refl _)) (by omega) (by omega)
      rwa [hrl] at this
    obtain ⟨z, hz⟩ : ∃ z, (r == ys) = z := ⟨_, rfl⟩
    rw [hz] at HB ⊢
    have hcap : ys.length ≤ d := h2.2.2
    have hbn : b = none → ys.length = 0 ∧ d = 0 := fun e => by have := h2.1 e; rw [this.1]; exact ⟨rfl, this.2⟩
    obtain ⟨L, hL⟩ : ∃ L, xs.length = L := ⟨_, rfl⟩
    obtain ⟨N, hN⟩ : ∃ N, ys.length = N := ⟨_, rfl⟩
    rw [hL, hN] at hle HR
    rw [hN] at HB l2 hcap hbn
    rw [hL, hN]
    clear hr hz hv hrl h1 h2 l1 hL hN
    have d1 : decide ((L : Int) ≤ (N : Int)) = true := decide_eq_true (by omega)
    have d2 : (0 : Int) ≤ L := by omega
    have d3 : (L : Int) ≤ d := by omega
    unfold maxLen at hd
    have d4 : L ≤ d := by omega
    go_enter Try.func7, Try.ntmps7
    go_wp2_with fail
    refine (HR.out _ (Below.refl _ _)).mono ?_
    rintro e w1 ⟨⟨a', c', rfl, hrow⟩, hb1⟩
    have HC := Lib.hid (HB.out w1 a' c' hb1 hrow)
    clear hrow
    go_wp2_with fail
    refine HC.out.mono ?_
    rintro e w2 ⟨rfl, hb2⟩
    go_wp2
    go_ret
    exact ⟨rfl, below_two hb1 hb2⟩
  · have hv : mkB xs ys = false := by unfold mkB; rw [decide_eq_false hle, Bool.false_and]
    rw [hv]
    obtain ⟨L, hL⟩ : ∃ L, xs.length = L := ⟨_, rfl⟩
    obtain ⟨N, hN⟩ : ∃ N, ys.length = N := ⟨_, rfl⟩
    rw [hL, hN] at hle
    rw [hL] at l1
    rw [hN] at l2
    rw [hL, hN]
    clear hL hN hv h1 h2 hd
    have d1 : decide ((L : Int) ≤ (N : Int)) = false := decide_eq_false (by omega)
    go_enter Try.func7, Try.ntmps7
    go_wp2
    go_ret
    exact ⟨rfl, Below.refl _ _⟩
end Go.Proofs.Yteggmpogcpceeaa
