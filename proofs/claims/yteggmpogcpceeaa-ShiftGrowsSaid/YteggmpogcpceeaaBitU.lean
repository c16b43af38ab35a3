/- The bits of words of 64 bits. -/
import Derived.Test.YteggmpogcpceeaaBase
import Derived.Laws.BitsAllLaws
import Derived.IntWalk
namespace Go.Proofs.Yteggmpogcpceeaa
set_option linter.unusedVariables false
theorem ofInt_u64 (a : Nat) (ha : a < 18446744073709551616) : (BitVec.ofInt 64 (a : Int)).toNat = a := by
  rw [BitVec.ofInt_natCast, BitVec.toNat_ofNat]; exact Nat.mod_eq_of_lt (by omega)
theorem u64_in (x : Nat) (h : x < 18446744073709551616) : IntKind.u64.wrap (x : Int) = (x : Int) := by
  simp [IntKind.wrap, IntKind.bits, IntKind.signed]; omega
theorem u64_or_nat (a b : Nat) (ha : a < 18446744073709551616) (hb : b < 18446744073709551616) : bits .or .u64 (a : Int) (b : Int) = ((a ||| b : Nat) : Int) := by
  have hx : a ||| b < 2 ^ 64 := Nat.or_lt_two_pow (by omega) (by omega)
  show IntKind.u64.wrap ((BitVec.ofInt 64 (a : Int) ||| BitVec.ofInt 64 (b : Int)).toNat : Int) = _
  rw [BitVec.toNat_or, ofInt_u64 a ha, ofInt_u64 b hb]
  exact u64_in _ (by omega)
theorem u64_and_nat (a b : Nat) (ha : a < 18446744073709551616) (hb : b < 18446744073709551616) : bits .and .u64 (a : Int) (b : Int) = ((a &&& b : Nat) : Int) := by
  have hx : a &&& b < 2 ^ 64 := Nat.and_lt_two_pow _ (by omega)
  show IntKind.u64.wrap ((BitVec.ofInt 64 (a : Int) &&& BitVec.ofInt 64 (b : Int)).toNat : Int) = _
  rw [BitVec.toNat_and, ofInt_u64 a ha, ofInt_u64 b hb]
  exact u64_in _ (by omega)
theorem u64_xor_nat (a b : Nat) (ha : a < 18446744073709551616) (hb : b < 18446744073709551616) : bits .xor .u64 (a : Int) (b : Int) = ((a ^^^ b : Nat) : Int) := by
  have hx : a ^^^ b < 2 ^ 64 := Nat.xor_lt_two_pow (by omega) (by omega)
  show IntKind.u64.wrap ((BitVec.ofInt 64 (a : Int) ^^^ BitVec.ofInt 64 (b : Int)).toNat : Int) = _
  rw [BitVec.toNat_xor, ofInt_u64 a ha, ofInt_u64 b hb]
  exact u64_in _ (by omega)
theorem u64_mod (x : Nat) : IntKind.u64.wrap (x : Int) = ((x % 18446744073709551616 : Nat) : Int) := by
  simp [IntKind.wrap, IntKind.bits, IntKind.signed]
theorem u64_one (I : Nat) (h : I < 64) : IntKind.u64.wrap ((2 : Int) ^ I) = ((1 <<< I : Nat) : Int) := by
  have h1 : ((2 : Int) ^ I) = ((2 ^ I : Nat) : Int) := by rw [Int.natCast_pow]; rfl
  have h2 : 2 ^ I < 2 ^ 64 := Nat.pow_lt_pow_right (by omega) h
  rw [h1, u64_in _ (by omega), Nat.shiftLeft_eq, Nat.one_mul]
theorem one_shift_lt {I : Nat} (h : I < 64) : 1 <<< I < 18446744073709551616 := by
  have h2 : 2 ^ I < 2 ^ 64 := Nat.pow_lt_pow_right (by omega) h
  rw [Nat.shiftLeft_eq, Nat.one_mul]; omega
theorem u64_bit (x I : Nat) (hx : x < 18446744073709551616) : (bits .and .u64 ((x : Int) / (2 : Int) ^ I) 1 == 1) = x.testBit I := by
  have h1 : ((x : Int) / (2 : Int) ^ I) = ((x / 2 ^ I : Nat) : Int) := by norm_cast
  have h2 : x / 2 ^ I < 18446744073709551616 := Nat.lt_of_le_of_lt (Nat.div_le_self _ _) hx
  have h3 := u64_and_nat (x / 2 ^ I) 1 h2 (by omega)
  rw [h1, show (1 : Int) = ((1 : Nat) : Int) from rfl, h3, Nat.and_one_is_mod, Nat.testBit_eq_decide_div_mod_eq]
  by_cases e : x / 2 ^ I % 2 = 1
  · rw [e, decide_eq_true rfl]; rfl
  · rw [decide_eq_false e, show x / 2 ^ I % 2 = 0 by omega]; rfl
end Go.Proofs.Yteggmpogcpceeaa
