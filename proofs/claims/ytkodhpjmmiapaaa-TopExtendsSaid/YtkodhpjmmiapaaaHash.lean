/- The contracts of package hash: one step. -/
import Derived.Test.YtkodhpjmmiapaaaHashM
import Derived.Laws.BitsAllLaws
namespace Go.Proofs.Ytkodhpjmmiapaaa
open Go.RowKit
set_option linter.unusedVariables false
set_option linter.unusedSimpArgs false
theorem step_bits (h b : Nat) (h1 : h < 65536) (h2 : b < 256) :
    bits .xor .u32 (bits .and .u32 (bits .xor .u32 (h : Int) (b : Int) * 40503 % 4294967296) 65535) (bits .and .u32 (bits .xor .u32 (h : Int) (b : Int) * 40503 % 4294967296) 65535 / 128) = (M.stepN h b : Nat) := by
  have hx := M.xor_lt16 h1 (show b < 65536 by omega)
  rw [u32_xor_nat h b (by omega) (by omega)]
  obtain ⟨x, e⟩ : ∃ x, x = h ^^^ b := ⟨_, rfl⟩
  rw [← e] at hx ⊢
  have e1 : ((x : Nat) : Int) * 40503 % 4294967296 = ((x * 40503 : Nat) : Int) := by omega
  have e2 : bits .and .u32 ((x * 40503 : Nat) : Int) 65535 = ((x * 40503 % 65536 : Nat) : Int) := by
    have := u32_and_nat (x * 40503) 65535 (by omega) (by omega)
    rw [show x * 40503 &&& 65535 = x * 40503 % 65536 from Nat.and_two_pow_sub_one_eq_mod (x * 40503) 16] at this
    exact this
  rw [e1, e2]
  have e3 : ((x * 40503 % 65536 : Nat) : Int) / 128 = ((x * 40503 % 65536 / 128 : Nat) : Int) := by omega
  rw [e3, u32_xor_nat _ _ (by omega) (by omega)]
  unfold M.stepN M.mix
  rw [e]
theorem hash_Step (h b : Nat) (w : World) (h1 : h < 65536) (h2 : b < 256) :
    Calls Try.prog 60 #[.int .u32 h, .int .u8 b] w fun e w' => e = .returned (.int .u32 (M.stepN h b : Nat)) ∧ w = w' := by
  go_enter Try.func60, Try.ntmps60
  go_wp2
  go_ret
  exact ⟨ret_int (step_bits h b h1 h2), rfl⟩
end Go.Proofs.Ytkodhpjmmiapaaa
