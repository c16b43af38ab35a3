/- slices.BinarySearch where the number is there. -/
import Derived.Test.YtceocooppjfjjaaRowL
import Derived.Test.YtceocooppjfjjaaOwnG
namespace Go.Proofs.Ytceocooppjfjjaa
open Go.RowKit
set_option linter.unusedVariables false
set_option linter.unusedSimpArgs false
theorem cmp_Less (x y : Int) (w : World) : Calls Try.prog 70 #[.int .i64 x, .int .i64 y] w fun e w' => e = .returned (.bool (decide (x < y))) ∧ w = w' := by
  have e1 : (x != x) = false := by simp
  have e2 : (y != y) = false := by simp
  by_cases h : x < y
  · rw [decide_eq_true h]
    go_enter Try.func70, Try.ntmps70
    go_wp2
    go_ret
    exact ⟨rfl, rfl⟩
  · rw [decide_eq_false h]
    go_enter Try.func70, Try.ntmps70
    go_wp2
    go_ret
    exact ⟨rfl, rfl⟩
theorem sorted_lt {xs : List Int} (hs : xs.Pairwise (· < ·)) {i j : Nat} {x y : Int} (hi : xs[i]? = some x) (hj : xs[j]? = some y) : x < y ↔ i < j := by
  obtain ⟨hi1, rfl⟩ := List.getElem?_eq_some_iff.1 hi
  obtain ⟨hj1, rfl⟩ := List.getElem?_eq_some_iff.1 hj
  have hp := List.pairwise_iff_getElem.1 hs
  constructor
  · intro h
    rcases Nat.lt_trichotomy i j with e | e | e
    · exact e
    · subst e; omega
    · have := hp j i hj1 hi1 e; omega
  · intro h; exact hp i j hi1 hj1 h
set_option maxRecDepth 20000 in
set_option maxHeartbeats 3200000 in
theorem slices_BinarySearch (a : Option Addr) (c : Nat) (xs : List Int) (q : Int) (k : Nat) (w : World) {L : Nat} (h : RowL w a c xs) (eL : xs.length = L) (hL : L ≤ 1048576) (hs : xs.Pairwise (· < ·)) (hk : xs[k]? = some q) :
    Calls Try.prog 49 #[.slice a L c, .int .i64 q] w fun e w' => e = .returned (.tuple #[.int .i64 k, .bool true]) ∧ Below w.heap.size w w' := by
  have hkL : k < L := by have := (List.getElem?_eq_some_iff.1 hk).1; omega
  obtain ⟨b, o, rfl, hc⟩ := h.shape (by omega)
  have HC := Lib.hid hc
  have HX := Lib.hid fun (i : Nat) (hi : i < L) => (⟨_, List.getElem?_eq_getElem (by rw [eL]; exact hi)⟩ : ∃ x, xs[i]? = some x)
  have HS := Lib.hid fun (i : Nat) (x : Int) (hx : xs[i]? = some x) => sorted_lt hs hx hk
  have kq := hc k q hk
  clear h eL hs hk hc
  go_enter Try.func49, Try.ntmps49
  go_wp2
  go_loopw [7, 8] (fun iv jv wr => ∃ I J : Nat, iv = .int .i64 I ∧ jv = .int .i64 J ∧ I ≤ k ∧ k ≤ J ∧ J ≤ L ∧ w = wr) (fun iv jv _ => (intOf jv).toNat - (intOf iv).toNat)
  case atStart => exact ⟨0, L, rfl, rfl, Nat.zero_le _, Nat.le_of_lt hkL, Nat.le_refl _, rfl⟩
  case round =>
    obtain ⟨I, J, rfl, rfl, hI, hJ, hJL, rfl⟩ := hrel
    by_cases hlt : I < J
    · have f1 : IntKind.i64.wrap ((I : Int) + (J : Int)) = (I : Int) + (J : Int) := IntWalk.i64_in _ (by omega)
      have f2 : wrap64 ((I : Int) + (J : Int)) = (I : Int) + (J : Int) := by unfold wrap64; omega
      have hlt' : (I : Int) < J := by omega
      obtain ⟨H, hH⟩ : ∃ H, (I + J) / 2 = H := ⟨_, rfl⟩
      obtain ⟨x, hx⟩ := HX.out H (by omega)
      have kx := HC.out H x hx
      have hxk := HS.out H x hx
      have f3 : ((I : Int) + (J : Int)) / 2 = (H : Int) := by omega
      have hH1 : I ≤ H := by omega
      have hH2 : H < J := by omega
      clear hx
      go_wp2_with fail
      by_cases hlk : H < k
      · have hxq : x < q := hxk.2 hlk
        refine (cmp_Less x q w).mono ?_
        rintro e w1 ⟨rfl, rfl⟩
        rw [decide_eq_true hxq]
        have f4 : IntKind.i64.wrap ((H : Int) + 1) = (H : Int) + 1 := IntWalk.i64_in _ (by omega)
        clear hxk hH f3
        go_wp2
        go_round
        case rel => exact ⟨H + 1, J, by go_num, rfl, hlk, hJ, hJL, trivial⟩
        case measure => simp [intOf]; omega
      · have hxq : ¬ x < q := fun e => hlk (hxk.1 e)
        refine (cmp_Less x q w).mono ?_
        rintro e w1 ⟨rfl, rfl⟩
        rw [decide_eq_false hxq]
        clear hxk hH f3
        go_wp2
        go_round
        case rel => exact ⟨I, H, rfl, rfl, hI, by omega, by omega, trivial⟩
        case measure => simp [intOf]; omega
    · obtain rfl : I = J := by omega
      obtain rfl : I = k := by omega
      go_wp2_with fail
      go_ret2
      exact ⟨rfl, Below.refl _ _⟩
end Go.Proofs.Ytceocooppjfjjaa
