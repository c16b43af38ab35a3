/- Plain: what one step of the hash makes; it is injective in each argument. -/
import Derived.Test.YtkodhpjmmiapaaaBase
namespace Go.Proofs.Ytkodhpjmmiapaaa.M
set_option linter.unusedVariables false
def mix (x : Nat) : Nat := x ^^^ x / 128
def stepN (h b : Nat) : Nat := mix ((h ^^^ b) * 40503 % 65536)
theorem xor_lt16 {a b : Nat} (h1 : a < 65536) (h2 : b < 65536) : a ^^^ b < 65536 := Nat.xor_lt_two_pow (n := 16) h1 h2
theorem mix_lt {x : Nat} (h : x < 65536) : mix x < 65536 := xor_lt16 h (by omega)
theorem xor_left_inj (a b c : Nat) : a ^^^ b = a ^^^ c ↔ b = c := by
  constructor
  · intro e
    have : a ^^^ (a ^^^ b) = a ^^^ (a ^^^ c) := by rw [e]
    rwa [← Nat.xor_assoc, ← Nat.xor_assoc, Nat.xor_self, Nat.zero_xor, Nat.zero_xor] at this
  · rintro rfl; rfl
theorem xor_zero {a b : Nat} (h : a ^^^ b = 0) : a = b := ((xor_left_inj a b a).1 (by rw [h, Nat.xor_self])).symm
theorem mix_zero {x : Nat} (h : mix x = 0) : x = 0 := by
  unfold mix at h
  have := xor_zero h
  omega
theorem mix_xor (x y : Nat) : mix (x ^^^ y) = mix x ^^^ mix y := by
  unfold mix
  rw [show (x ^^^ y) / 128 = x / 128 ^^^ y / 128 by
    have := Nat.shiftRight_xor_distrib (a := x) (b := y) (i := 7)
    simpa [Nat.shiftRight_eq_div_pow] using this]
  ac_rfl
theorem mix_inj {x y : Nat} (h : mix x = mix y) : x = y := by
  have e : mix (x ^^^ y) = 0 := by rw [mix_xor, h, Nat.xor_self]
  exact xor_zero (mix_zero e)
theorem mul_back (x q r m : Nat) (hm : m = x * 40503) (e : 65536 * q + r = m) (hx : x < 65536) : r * 30599 % 65536 = x := by omega
theorem mul_inj {a b : Nat} (ha : a < 65536) (hb : b < 65536) (h : a * 40503 % 65536 = b * 40503 % 65536) : a = b := by
  have k1 := mul_back a _ _ _ rfl (Nat.div_add_mod (a * 40503) 65536) ha
  have k2 := mul_back b _ _ _ rfl (Nat.div_add_mod (b * 40503) 65536) hb
  rw [h] at k1
  exact k1.symm.trans k2
theorem stepN_lt (h b : Nat) : stepN h b < 65536 := mix_lt (Nat.mod_lt _ (by omega))
theorem stepN_inj {h b h' b' : Nat} (h1 : h < 65536) (h2 : b < 65536) (h3 : h' < 65536) (h4 : b' < 65536) : stepN h b = stepN h' b' ↔ h ^^^ b = h' ^^^ b' := by
  unfold stepN
  exact ⟨fun e => mul_inj (xor_lt16 h1 h2) (xor_lt16 h3 h4) (mix_inj e), fun e => by rw [e]⟩
theorem stepN_left {h b b' : Nat} (h1 : h < 65536) (h2 : b < 65536) (h4 : b' < 65536) : stepN h b = stepN h b' ↔ b = b' := (stepN_inj h1 h2 h1 h4).trans (xor_left_inj h b b')
theorem stepN_right {h h' b : Nat} (h1 : h < 65536) (h2 : b < 65536) (h3 : h' < 65536) : stepN h b = stepN h' b ↔ h = h' :=
  (stepN_inj h1 h2 h3 h2).trans (by rw [Nat.xor_comm h, Nat.xor_comm h']; exact xor_left_inj b h h')
end Go.Proofs.Ytkodhpjmmiapaaa.M
