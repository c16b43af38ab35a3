/- The contract of math/bits.Len64. -/
import Derived.Test.YteggmpogcpceeaaBase
import Derived.Lib.BitFns
import Derived.Lib.Strings
import Derived.Lib.Slices
import Derived.Lib.Small
import Derived.Lib.Walk
namespace Go.Proofs.Yteggmpogcpceeaa
open Go.RowKit
set_option linter.unusedVariables false
set_option linter.unusedSimpArgs false
theorem tab_size : Lib.len8tab.size = 256 := by decide +kernel
theorem tab_all : ∀ i : Fin Lib.len8tab.size, (Lib.len8tab[i.val]'i.isLt).toNat = Lib.bitLen i.val ∧ Lib.bitLen i.val ≤ 8 := by decide +kernel
theorem tab_at (i : Nat) (y : Int) (e : y.toNat = i) (h : y.toNat < Lib.len8tab.size) : (Lib.len8tab[y.toNat]'h).toNat = Lib.bitLen i := by
  subst e
  exact (tab_all ⟨y.toNat, h⟩).1
theorem len_small {i : Nat} (h : i < 256) : Lib.bitLen i ≤ 8 := (tab_all ⟨i, by rw [tab_size]; exact h⟩).2
theorem len_fin {x d k : Nat} (h : x / d < 256) (e : Lib.bitLen x = k + Lib.bitLen (x / d)) (hk : k ≤ 56) : wrap64 ((k : Int) + wrap64 (Lib.bitLen (x / d) : Nat)) = (Lib.bitLen x : Nat) := by
  have := len_small h
  rw [e]
  unfold wrap64
  omega
theorem len_fin0 {x : Nat} (h : x < 256) : wrap64 (wrap64 (Lib.bitLen x : Nat)) = (Lib.bitLen x : Nat) := by
  have := len_small h
  unfold wrap64
  omega
set_option maxHeartbeats 4000000 in
set_option maxRecDepth 100000 in
theorem bits_Len64I (y : Int) (w : World) (h0 : 0 ≤ y) (h1 : y ≤ 18446744073709551615) :
    Calls Try.prog 15 #[.int .u64 y] w fun e w' => e = .returned (.int .i64 (Lib.bitLen y.toNat : Nat)) ∧ w = w' := by
  have hs := Lib.hid tab_size
  go_enter Try.func15, Try.ntmps15
  go_wp2
  all_goals first
    | (exfalso; have := hs.out; omega)
    | (go_ret
       refine ⟨ret_int ?_, rfl⟩)
  all_goals first
    | (rw [tab_at (y.toNat / 72057594037927936) _ (by omega)]; exact len_fin (d := 72057594037927936) (k := 56) (by omega) (Lib.bitLen_shift56 y.toNat (by omega) (by omega)) (by omega))
    | (rw [tab_at (y.toNat / 281474976710656) _ (by omega)]; exact len_fin (d := 281474976710656) (k := 48) (by omega) (Lib.bitLen_shift48 y.toNat (by omega) (by omega)) (by omega))
    | (rw [tab_at (y.toNat / 1099511627776) _ (by omega)]; exact len_fin (d := 1099511627776) (k := 40) (by omega) (Lib.bitLen_shift40 y.toNat (by omega) (by omega)) (by omega))
    | (rw [tab_at (y.toNat / 4294967296) _ (by omega)]; exact len_fin (d := 4294967296) (k := 32) (by omega) (Lib.bitLen_shift32 y.toNat (by omega) (by omega)) (by omega))
    | (rw [tab_at (y.toNat / 16777216) _ (by omega)]; exact len_fin (d := 16777216) (k := 24) (by omega) (Lib.bitLen_shift24 y.toNat (by omega) (by omega)) (by omega))
    | (rw [tab_at (y.toNat / 65536) _ (by omega)]; exact len_fin (d := 65536) (k := 16) (by omega) (Lib.bitLen_shift16 y.toNat (by omega) (by omega)) (by omega))
    | (rw [tab_at (y.toNat / 256) _ (by omega)]; exact len_fin (d := 256) (k := 8) (by omega) (Lib.bitLen_shift8 y.toNat (by omega) (by omega)) (by omega))
    | (rw [tab_at y.toNat _ rfl]; exact len_fin0 (by omega))
theorem bits_Len64 (x : Nat) (w : World) (h : x < 18446744073709551616) :
    Calls Try.prog 15 #[.int .u64 x] w fun e w' => e = .returned (.int .i64 (Lib.bitLen x : Nat)) ∧ w = w' := by
  have := bits_Len64I x w (by omega) (by omega)
  rwa [Int.toNat_natCast] at this
end Go.Proofs.Yteggmpogcpceeaa
