/- Contracts: shift.word, list, odd; math/bits.OnesCount64. -/
import Derived.Test.YteggmpogcpceeaaRowT
import Derived.Test.YteggmpogcpceeaaBitU
import Derived.Test.YteggmpogcpceeaaPop
import Derived.Test.YteggmpogcpceeaaBit64
namespace Go.Proofs.Yteggmpogcpceeaa
open Go.RowKit
set_option linter.unusedVariables false
set_option linter.unusedSimpArgs false
theorem word_lt {f : Nat → Bool} {I : Nat} (h : I ≤ 64) : Sh.wordOf f I < 18446744073709551616 := Nat.lt_of_lt_of_le (Sh.wordOf_lt f I) (Nat.pow_le_pow_right (n := 2) (by omega) h)
theorem word_step {f : Nat → Bool} {I : Nat} (hI : I < 64) (h : f I = true) : bits .or .u64 (Sh.wordOf f I : Nat) (IntKind.u64.wrap ((2 : Int) ^ I)) = ((Sh.wordOf f (I + 1) : Nat) : Int) := by
  rw [u64_one I hI, u64_or_nat _ _ (word_lt (by omega)) (one_shift_lt hI)]
  congr 1
  show _ = if f I = true then _ else _
  rw [if_pos h]
theorem word_skip {f : Nat → Bool} {I : Nat} (h : f I = false) : Sh.wordOf f I = Sh.wordOf f (I + 1) := by
  show _ = if f I = true then _ else _
  rw [if_neg (by rw [h]; simp)]
set_option maxHeartbeats 1600000 in
theorem shift_word (a : Option Addr) (c : Nat) (xs : List Bool) (w : World) (h : RowT w a c xs) (hl : xs.length ≤ 64) :
    Calls Try.prog 13 #[.slice a xs.length c] w fun e w' => e = .returned (.int .u64 (Sh.wordOf (fun i => xs.getD i false) xs.length : Nat)) ∧ w = w' := by
  have HR := Lib.hid h
  obtain ⟨L, hL⟩ : ∃ L, L = xs.length := ⟨_, rfl⟩
  have HL := Lib.hid hL
  rw [← hL] at hl ⊢
  obtain ⟨s, hs⟩ : ∃ s : Nat → Bool, (fun i => xs.getD i false) = s := ⟨_, rfl⟩
  have HS := Lib.hid hs
  rw [hs]
  clear h hL hs
  go_enter Try.func13, Try.ntmps13
  go_wp2
  go_loop [3, 8] (fun wv iv => ∃ I : Nat, iv = .int .i64 I ∧ I ≤ L ∧ wv = .int .u64 (Sh.wordOf s I : Nat)) (fun _ iv => (L - (intOf iv).toNat))
  case atStart => exact ⟨0, rfl, Nat.zero_le _, rfl⟩
  case round =>
    obtain ⟨I, rfl, hI, rfl⟩ := hrel
    by_cases hlt : I < L
    · obtain ⟨x, hx⟩ : ∃ x, xs[I]? = some x := ⟨_, List.getElem?_eq_getElem (by rw [← HL.out]; omega)⟩
      obtain ⟨b, o, rfl, hcell⟩ := HR.out.shape (by rw [← HL.out]; omega)
      have kx := hcell I x hx
      have hsx : s I = x := by rw [← HS.out]; simp [List.getD_eq_getElem?_getD, hx]
      have HX := Lib.hid hsx
      clear hcell hx hsx
      cases x
      · go_wp2
        go_round
        case rel => exact ⟨I + 1, by go_num, by omega, by rw [word_skip HX.out]⟩
        case measure => simp [intOf]; omega
      · go_wp2
        go_round
        case rel => exact ⟨I + 1, by go_num, by omega, by rw [word_step (by omega) HX.out]⟩
        case measure => simp [intOf]; omega
    · obtain rfl : I = L := by omega
      go_wp2
      go_ret
      exact ⟨rfl, rfl⟩
set_option maxHeartbeats 1600000 in
theorem shift_list (x n : Nat) (w : World) (hx : x < 18446744073709551616) (hn : n ≤ 64) :
    Calls Try.prog 16 #[.int .u64 x, .int .i64 n] w fun e w' => (∃ a' c', e = .returned (.slice a' n c') ∧ RowT w' a' c' ((List.range n).map fun i => x.testBit i)) ∧ Below w.heap.size w w' := by
  obtain ⟨i0, hi, hz0, hz1, hz2⟩ := info_parts bool_info
  have hu : Try.prog.underlying 22 = some (.slice 4) := by kernel_rfl
  have HB := Lib.hid fun I => u64_bit x I hx
  go_enter Try.func16, Try.ntmps16
  go_wp2
  go_loopw [5, 8] (fun v iv wr => ∃ I : Nat, iv = .int .i64 I ∧ I ≤ n ∧ Below w.heap.size w wr ∧ wr.ownsRow w.heap.size 4 1 v I (bV ((List.range I).map fun i => x.testBit i))) (fun _ iv _ => (n - (intOf iv).toNat))
  case atStart => exact ⟨0, rfl, Nat.zero_le _, Below.refl _ _, World.ownsRow_nil _ _ _ _⟩
  case round =>
    obtain ⟨I, rfl, hI, hb, ho⟩ := hrel
    have hz := hb.size
    by_cases hlt : I < n
    · have e1 := HB.out I
      have HE : Hid (bV ((List.range I).map fun i => x.testBit i) ++ [.bool (x.testBit I)] = bV ((List.range (I + 1)).map fun i => x.testBit i)) := Lib.hid (by simp [bV, List.range_succ])
      obtain ⟨y, hy⟩ : ∃ y, x.testBit I = y := ⟨_, rfl⟩
      rw [hy] at e1 HE
      clear hy
      go_wp2_with (first
        | (at_builtin; refine wpList_append_own _ rfl _ _ 22 rfl w.heap.size 4 i0 (.bool false) 1 1 hu hi hz0 hz1 hz2 rfl (by decide) _ _ _ rfl (ho.alloc _) ⟨wr.heap.size, 0, none⟩ 1 1 [.bool y] rfl rfl (cell_newT _ _ _ rfl) (by simp [Value.oneCell']) (by unfold maxLen; omega) (by omega) (by simp; omega) ?_; intro v' w2 hown' hg2 hnil2; have kk2 := ((hb.alloc hz (.cells #[.bool y] 4)).grown hg2 (by simp; omega) (fun j hj => (ho.lt j hj).1))))
      go_roundw
      case rel => exact ⟨I + 1, by go_num, by omega, kk2, by rw [HE.out] at hown'; exact hown'⟩
      case measure => simp [intOf]; omega
    · obtain rfl : I = n := by omega
      have hl : ((List.range I).map fun i => x.testBit i).length = I := by simp
      obtain ⟨a', c', he, hrow⟩ := own_rowT (xs := (List.range I).map fun i => x.testBit i) (by rw [hl]; exact ho)
      rw [hl] at he
      subst he
      go_wp2
      go_ret
      exact ⟨⟨a', c', rfl, hrow⟩, hb⟩
end Go.Proofs.Yteggmpogcpceeaa
