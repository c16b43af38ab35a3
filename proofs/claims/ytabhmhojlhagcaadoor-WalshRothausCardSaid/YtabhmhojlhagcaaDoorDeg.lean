/- Contracts: math/bits.TrailingZeros32, OnesCount; walsh.Degree, Immune. -/
import Derived.Test.YtabhmhojlhagcaaDoorRothM
import Derived.Test.YtabhmhojlhagcaaDoorAnf
import Derived.Test.YtabhmhojlhagcaaDoorWav
import Derived.Test.YtabhmhojlhagcaaDoorWWalP
import Derived.Shelf.Spec.TrailingZeros
namespace Go.Proofs.YtabhmhojlhagcaaDoor
open Go.RowKit
set_option linter.unusedVariables false
set_option linter.unusedSimpArgs false
/-- the table of the library lies as it is written -/
def TabB (w : World) : Prop := ∀ j, j < 32 → w.cell? ⟨0, j, none⟩ = some (.int .u8 (Lib.deBruijn32tab.getD j 0 : Nat))
theorem TabB.below {w w' : World} (h : TabB w) (hb : Below w.heap.size w w') : TabB w' := fun j hj => kept hb (h j hj) (by
  have := World.block_lt_of_cell? w _ (h j hj); exact this)
set_option maxHeartbeats 1000000 in
theorem tz32_walk (x k idx : Nat) (w : World) (hx0 : ((x : Int) == 0) = false)
    (key : bits BinOp.and IntKind.u32 (x : Int) (-(x : Int) % 4294967296) * 125613361 % 4294967296 / 134217728 = (idx : Int))
    (hi : idx < 32) (hk : k < 32) (hcell : w.cell? ⟨0, idx, none⟩ = some (.int .u8 k)) :
    Calls Tryd.prog 14 #[.int .u32 x] w fun e w' => e = .returned (.int .i64 k) ∧ w = w' := by
  go_enter Tryd.func14, Tryd.ntmps14
  go_wp2_with (simp only [key])
  go_ret
  exact ⟨rfl, rfl⟩
theorem bits_tz32 (x : Nat) (w : World) (hx : x < 4294967296) (h0 : x ≠ 0) (hT : TabB w) :
    Calls Tryd.prog 14 #[.int .u32 x] w fun e w' => e = .returned (.int .i64 (Lib.ctz 32 x : Nat)) ∧ w = w' := by
  obtain ⟨hlow, hk⟩ := Lib.lowest_bit 32 x h0 hx
  obtain ⟨hi, htab⟩ := Lib.deBruijn32_at _ hk
  have hcell := hT _ hi
  rw [htab] at hcell
  exact tz32_walk x _ _ w (by simp; omega) (Go.Proofs.tz32_key x _ hx h0 hlow) hi hk hcell
theorem bits_ones (x : Nat) (w : World) (hx : x < 32) :
    Calls Tryd.prog 13 #[.int .u64 x] w fun e w' => e = .returned (.int .i64 (pop5 x : Nat)) ∧ w = w' := by
  go_enter Tryd.func13, Tryd.ntmps13
  go_wp2
  go_ret
  refine ⟨ret_int ?_, rfl⟩
  clear w
  revert hx
  revert x
  decide +kernel
theorem bit_test (g i : Nat) : g / 2 ^ i % 2 = 1 ↔ g.testBit i = true := by
  rw [Nat.testBit_eq_decide_div_mod_eq]; simp
theorem clear_low {g : Nat} (h0 : g ≠ 0) (h : g < 4294967296) :
    g / 2 ^ Lib.ctz 32 g % 2 = 1 ∧ Lib.ctz 32 g < 32 ∧ (∀ i, (g &&& (g - 1)) / 2 ^ i % 2 = 1 → g / 2 ^ i % 2 = 1) ∧ (∀ i, g / 2 ^ i % 2 = 1 → i = Lib.ctz 32 g ∨ (g &&& (g - 1)) / 2 ^ i % 2 = 1) ∧ g &&& (g - 1) < g := by
  obtain ⟨m, hm, hk⟩ := Lib.ctzFrom_spec 32 g (by omega) h
  have e : Lib.ctz 32 g = Lib.ctzFrom 32 g := by simp [Lib.ctz, h0]
  rw [e]
  obtain ⟨k, hke⟩ : ∃ k, k = Lib.ctzFrom 32 g := ⟨_, rfl⟩
  rw [← hke] at hm hk ⊢
  have hp : 0 < 2 ^ k := Nat.pow_pos (by omega)
  have e1 : g = 2 ^ k * (2 * m + 1) + 0 := by omega
  have e2 : g - 1 = 2 ^ k * (2 * m) + (2 ^ k - 1) := by rw [hm, Nat.mul_add, Nat.mul_one]; omega
  have b1 : ∀ i, g.testBit i = if i < k then false else (2 * m + 1).testBit (i - k) := fun i => by
    rw [e1, Nat.testBit_two_pow_mul_add _ hp]; simp
  have b2 : ∀ i, (g - 1).testBit i = if i < k then (2 ^ k - 1).testBit i else (2 * m).testBit (i - k) := fun i => by
    rw [e2, Nat.testBit_two_pow_mul_add _ (by omega)]
  refine ⟨?_, hk, fun i hi => ?_, fun i hi => ?_, Nat.lt_of_le_of_lt Nat.and_le_right (by omega)⟩
  · rw [bit_test, b1, if_neg (by omega), Nat.sub_self]; simp [Nat.testBit_zero]
  · rw [bit_test] at hi ⊢
    rw [Nat.testBit_and, Bool.and_eq_true] at hi
    exact hi.1
  · rw [bit_test] at hi ⊢
    by_cases hik : i = k
    · exact .inl hik
    · refine .inr ?_
      rw [Nat.testBit_and, hi, Bool.true_and, b2]
      rw [b1] at hi
      by_cases hlt : i < k
      · rw [if_pos hlt] at hi; cases hi
      · rw [if_neg hlt] at hi ⊢
        obtain ⟨j, hj⟩ : ∃ j, i - k = j + 1 := ⟨i - k - 1, by omega⟩
        rw [hj, Nat.testBit_succ] at hi ⊢
        rw [show (2 * m + 1) / 2 = m by omega] at hi
        rw [show 2 * m / 2 = m by omega]
        exact hi
/-- what the loop has found -/
def DRel (G g : Nat) (d : Int) : Prop := (∀ i, g / 2 ^ i % 2 = 1 → G / 2 ^ i % 2 = 1) ∧ (∀ i, G / 2 ^ i % 2 = 1 → g / 2 ^ i % 2 = 1 ∨ (pop5 i : Int) ≤ d) ∧ (d = -1 ∨ ∃ i, G / 2 ^ i % 2 = 1 ∧ d = pop5 i) ∧ -1 ≤ d ∧ d ≤ 5
theorem pop5_le (i : Nat) : pop5 i ≤ 5 := by unfold pop5; omega
theorem DRel.init (G : Nat) : DRel G G (-1) := ⟨fun i h => h, fun i h => .inl h, .inl rfl, by decide, by decide⟩
theorem DRel.step {G g : Nat} {d : Int} (h : DRel G g d) (h0 : g ≠ 0) (hg : g < 4294967296) : DRel G (g &&& (g - 1)) (if d < pop5 (Lib.ctz 32 g) then (pop5 (Lib.ctz 32 g) : Int) else d) := by
  obtain ⟨c1, c2, c3, c4, c5⟩ := clear_low h0 hg
  obtain ⟨r1, r2, r3, r4, r5⟩ := h
  have hp := pop5_le (Lib.ctz 32 g)
  refine ⟨fun i hi => r1 i (c3 i hi), fun i hi => ?_, ?_, ?_, ?_⟩
  · rcases r2 i hi with h | h
    · rcases c4 i h with e | e
      · subst e; right; split <;> omega
      · exact .inl e
    · right; split <;> omega
  · split
    · exact .inr ⟨_, r1 _ c1, rfl⟩
    · exact r3
  · split <;> omega
  · split <;> omega
theorem DRel.done {G : Nat} {d : Int} (h : DRel G 0 d) : IsDeg G d := ⟨fun i hi => (h.2.1 i hi).resolve_left (by simp), h.2.2.1⟩
theorem u32_and (a b : Nat) (ha : a < 4294967296) (hb : b < 4294967296) : bits .and .u32 (a : Int) (b : Int) = ((a &&& b : Nat) : Int) := Go.Proofs.bits_and_u32_nat a b ha hb
set_option maxHeartbeats 1600000 in
theorem walsh_Degree (n f : Nat) (w : World) (hn : n ≤ 5) (hf : f < 2 ^ 2 ^ n) (hT : TabB w) :
    Calls Tryd.prog 6 #[.int .i64 n, .int .u32 f] w fun e w' => ∃ d : Int, e = .returned (.tuple #[.int .i64 d, .int .i64 0]) ∧ IsDeg (anfN n f) d ∧ -1 ≤ d ∧ d ≤ 5 ∧ Below w.heap.size w w' := by
  have hN : 2 ^ n ≤ 32 := Nat.pow_le_pow_right (n := 2) (by omega) hn
  have hp32 : 2 ^ 2 ^ n ≤ 2 ^ 32 := Nat.pow_le_pow_right (n := 2) (by omega) hN
  have hf2 : f < 4294967296 := Nat.lt_of_lt_of_le hf (Nat.le_trans hp32 (by omega))
  have HO := Lib.hid fun w => walsh_out n f w hf2
  rw [show funB (n : Int) f = true from funB_yes.2 ⟨by omega, by omega, by simpa using hf⟩] at HO
  have HA := Lib.hid fun w => walsh_anf n f w hn hf
  have hg := anfN_lt n f
  obtain ⟨G, hG⟩ : ∃ A, anfN n f = A := ⟨_, rfl⟩
  rw [hG] at HA hg ⊢
  have hg2 : G < 4294967296 := Nat.lt_of_lt_of_le hg (Nat.le_trans hp32 (by omega))
  have HT := Lib.hid hT
  clear hf hN hG hg hp32 hT
  go_enter Tryd.func6, Tryd.ntmps6
  go_wp2_with fail
  refine (HO.out _).mono ?_
  rintro e w' ⟨rfl, rfl⟩
  go_wp2_with fail
  refine (HA.out _).mono ?_
  rintro e w1 ⟨rfl, hb1⟩
  have HT1 := Lib.hid (HT.out.below hb1)
  go_wp2
  go_loop [6, 7] (fun d g => ∃ (D : Int) (g' : Nat), d = .int .i64 D ∧ g = .int .u32 (g' : Int) ∧ g' < 4294967296 ∧ Hid (DRel G g' D)) (fun _ g => (intOf g).toNat)
  case atStart => exact ⟨-1, G, rfl, rfl, hg2, Lib.hid (DRel.init G)⟩
  case round =>
    obtain ⟨D, g, rfl, rfl, hgl, HD⟩ := hrel
    by_cases h0 : g = 0
    · subst h0
      have HF := Lib.hid HD.out.done
      obtain ⟨_, _, _, d1, d2⟩ := HD.out
      go_wp2
      go_ret2
      exact ⟨D, rfl, HF.out, d1, d2, hb1⟩
    · have hne : ((g : Int) != 0) = true := by simp; omega
      have ck := (clear_low h0 hgl).2.1
      have clt := (clear_low h0 hgl).2.2.2.2
      have HS := Lib.hid (HD.out.step h0 hgl)
      have d1 := HD.out.2.2.2.1
      have d2 := HD.out.2.2.2.2
      have ha1 : IntKind.u32.wrap ((g : Int) - 1) = (g : Int) - 1 := by rw [Go.Proofs.wrap_u32']; omega
      have ha2 : ((g : Int) - 1) % 4294967296 = (g : Int) - 1 := by omega
      have hAn : bits .and .u32 (g : Int) ((g : Int) - 1) = ((g &&& (g - 1) : Nat) : Int) := by
        rw [show (g : Int) - 1 = ((g - 1 : Nat) : Int) by omega]; exact u32_and g (g - 1) hgl (by omega)
      have HZ := Lib.hid (fun W => bits_tz32 g W hgl h0)
      obtain ⟨t, ht⟩ : ∃ t, Lib.ctz 32 g = t := ⟨_, rfl⟩
      rw [ht] at HZ HS ck
      have HOn := Lib.hid (fun W => bits_ones t W ck)
      have hp := pop5_le t
      obtain ⟨q, hq⟩ : ∃ q, pop5 t = q := ⟨_, rfl⟩
      rw [hq] at HOn HS hp
      obtain ⟨g2, hg2e⟩ : ∃ x, g &&& (g - 1) = x := ⟨_, rfl⟩
      rw [hg2e] at HS hAn clt
      clear ht hq hg2e
      go_wp2_with fail
      refine (HZ.out _ HT1.out).mono ?_
      rintro e w' ⟨rfl, rfl⟩
      go_wp2_with fail
      refine (HOn.out _).mono ?_
      rintro e w' ⟨rfl, rfl⟩
      rcases Int.lt_trichotomy D (q : Int) with hlt | heq | hgt
      · rw [if_pos hlt] at HS
        go_wp2
        go_round
        case rel => exact ⟨_, g2, rfl, by first | rfl | rw [hAn], by omega, HS⟩
        case measure => simp [intOf]; omega
      · rw [if_neg (by omega)] at HS
        subst heq
        go_wp2
        go_round
        case rel => exact ⟨_, g2, rfl, by first | rfl | rw [hAn], by omega, HS⟩
        case measure => simp [intOf]; omega
      · rw [if_neg (by omega)] at HS
        go_wp2
        go_round
        case rel => exact ⟨_, g2, rfl, by first | rfl | rw [hAn], by omega, HS⟩
        case measure => simp [intOf]; omega
end Go.Proofs.YtabhmhojlhagcaaDoor
