/- Contracts: math/bits.OnesCount64; shift.odd. -/
import Derived.Test.YteggmpogcpceeaaRowT
import Derived.Test.YteggmpogcpceeaaBitU
import Derived.Test.YteggmpogcpceeaaPop
import Derived.Test.YteggmpogcpceeaaBit64
namespace Go.Proofs.Yteggmpogcpceeaa
open Go.RowKit
set_option linter.unusedVariables false
set_option linter.unusedSimpArgs false
theorem u64_add (a b : Nat) (h : a + b < 18446744073709551616) : IntKind.u64.wrap ((a : Int) + b) = ((a + b : Nat) : Int) := by
  rw [← Int.natCast_add]; exact u64_in _ h
theorem stA_int (x : Nat) (hx : x < 18446744073709551616) : IntKind.u64.wrap (bits .and .u64 ((x : Int) / 2) 6148914691236517205 + bits .and .u64 (x : Int) 6148914691236517205) = ((Sh.stA 6148914691236517205 x : Nat) : Int) := by
  have e1 := u64_and_nat (x / 2) 6148914691236517205 (by omega) (by omega)
  have e2 := u64_and_nat x 6148914691236517205 hx (by omega)
  have e3 : ((x : Int) / 2) = ((x / 2 : Nat) : Int) := by omega
  rw [e3, show (6148914691236517205 : Int) = ((6148914691236517205 : Nat) : Int) from rfl, e1, e2]
  exact u64_add _ _ (Sh.stA_lt (by decide))
theorem stB_le {x n : Nat} : Sh.stB n x ≤ 2 * n := by
  have h1 : x / 4 &&& n ≤ n := Nat.and_le_right
  have h2 : x &&& n ≤ n := Nat.and_le_right
  unfold Sh.stB; omega
theorem stB_int (x : Nat) (hx : x < 18446744073709551616) : IntKind.u64.wrap (bits .and .u64 ((x : Int) / 4) 3689348814741910323 + bits .and .u64 (x : Int) 3689348814741910323) = ((Sh.stB 3689348814741910323 x : Nat) : Int) := by
  have e1 := u64_and_nat (x / 4) 3689348814741910323 (by omega) (by omega)
  have e2 := u64_and_nat x 3689348814741910323 hx (by omega)
  have e3 : ((x : Int) / 4) = ((x / 4 : Nat) : Int) := by omega
  rw [e3, show (3689348814741910323 : Int) = ((3689348814741910323 : Nat) : Int) from rfl, e1, e2]
  exact u64_add _ _ (Sh.stB_lt (by decide))
theorem stC_int (x : Nat) (hx : x ≤ 2 * 3689348814741910323) : bits .and .u64 (IntKind.u64.wrap ((x : Int) / 16 + x)) 1085102592571150095 = ((Sh.stC 1085102592571150095 x : Nat) : Int) := by
  have e3 : ((x : Int) / 16) = ((x / 16 : Nat) : Int) := by omega
  rw [e3, u64_add _ _ (by omega), show (1085102592571150095 : Int) = ((1085102592571150095 : Nat) : Int) from rfl]
  exact u64_and_nat _ _ (by omega) (by omega)
theorem and127 (q : Nat) (h : q < 9223372036854775808) : bits .and .i64 (q : Int) 127 = ((q % 128 : Nat) : Int) := by
  have h8 : q &&& 127 = q % 128 := Nat.and_two_pow_sub_one_eq_mod q 7
  rw [← h8]
  exact i64_and_nat q 127 h (by omega)
theorem stC_le {x n : Nat} : Sh.stC n x ≤ n := Nat.and_le_right
set_option maxHeartbeats 1600000 in
theorem bits_ones64 (x : Nat) (w : World) (hx : x < 18446744073709551616) :
    Calls Try.prog 17 #[.int .u64 x] w fun e w' => e = .returned (.int .i64 (Sh.ones64 x : Nat)) ∧ w = w' := by
  go_enter Try.func17, Try.ntmps17
  go_wp2
  go_ret
  refine ⟨ret_int ?_, rfl⟩
  have hA := stA_int x hx
  have hAl : Sh.stA 6148914691236517205 x < 18446744073709551616 := Sh.stA_lt (by decide)
  obtain ⟨y, hy⟩ : ∃ y, Sh.stA 6148914691236517205 x = y := ⟨_, rfl⟩
  rw [hy] at hA hAl
  rw [hA]
  have hB := stB_int y hAl
  have hBl : Sh.stB 3689348814741910323 y ≤ 2 * 3689348814741910323 := stB_le
  obtain ⟨z, hz⟩ : ∃ z, Sh.stB 3689348814741910323 y = z := ⟨_, rfl⟩
  rw [hz] at hB hBl
  rw [hB]
  have hC := stC_int z hBl
  have hCl : Sh.stC 1085102592571150095 z ≤ 1085102592571150095 := stC_le
  obtain ⟨u, hu⟩ : ∃ u, Sh.stC 1085102592571150095 z = u := ⟨_, rfl⟩
  rw [hu] at hC hCl
  rw [hC]
  have e1 : IntKind.u64.wrap ((u : Int) + (u : Int) / 256) = ((u + u / 256 : Nat) : Int) := by
    rw [show ((u : Int) / 256) = ((u / 256 : Nat) : Int) by omega]; exact u64_add _ _ (by omega)
  rw [e1]
  obtain ⟨v, hv⟩ : ∃ v, u + u / 256 = v := ⟨_, rfl⟩
  rw [hv]
  have e2 : IntKind.u64.wrap ((v : Int) + (v : Int) / 65536) = ((v + v / 65536 : Nat) : Int) := by
    rw [show ((v : Int) / 65536) = ((v / 65536 : Nat) : Int) by omega]; exact u64_add _ _ (by omega)
  rw [e2]
  obtain ⟨t, ht⟩ : ∃ t, v + v / 65536 = t := ⟨_, rfl⟩
  rw [ht]
  have e3 : IntKind.u64.wrap ((t : Int) + (t : Int) / 4294967296) = ((t + t / 4294967296 : Nat) : Int) := by
    rw [show ((t : Int) / 4294967296) = ((t / 4294967296 : Nat) : Int) by omega]; exact u64_add _ _ (by omega)
  rw [e3]
  have e4 : wrap64 ((t + t / 4294967296 : Nat) : Int) = ((t + t / 4294967296 : Nat) : Int) := by unfold wrap64; omega
  rw [e4]
  have e5 : Sh.ones64 x = (t + t / 4294967296) % 128 := by
    unfold Sh.ones64
    simp only [hy, hz, hu, hv, ht]
  rw [e5]
  have ht2 : t + t / 4294967296 < 9223372036854775808 := by
    have d1 : u / 256 ≤ u := Nat.div_le_self _ _
    have d2 : v / 65536 ≤ v := Nat.div_le_self _ _
    have d3 : t / 4294967296 ≤ t := Nat.div_le_self _ _
    clear e1 e2 e3 e4 e5 hA hB hC hy hz hu
    generalize u / 256 = k1 at *
    generalize v / 65536 = k2 at *
    generalize t / 4294967296 = k3 at *
    omega
  generalize t + t / 4294967296 = q at *
  exact and127 q ht2
theorem shift_odd (x : Nat) (w : World) (hx : x < 18446744073709551616) :
    Calls Try.prog 14 #[.int .u64 x] w fun e w' => e = .returned (.bool (Sh.dot (fun i => x.testBit i) (fun _ => true) 64)) ∧ w = w' := by
  have hle := Sh.ones64_le x
  rw [← Sh.ones64_odd 64 hx (Nat.le_refl _)]
  have HC := Lib.hid (bits_ones64 x w hx)
  obtain ⟨q, hq⟩ : ∃ q, Sh.ones64 x = q := ⟨_, rfl⟩
  rw [hq] at HC hle ⊢
  clear hq
  have hr : q % 2 = 0 ∨ q % 2 = 1 := by omega
  have m1 : (q : Int).tmod 2 = ((q % 2 : Nat) : Int) := by rw [Int.tmod_eq_emod_of_nonneg (by omega)]; norm_cast
  have m2 : (q : Int) % 2 = ((q % 2 : Nat) : Int) := by norm_cast
  obtain ⟨r, hre⟩ : ∃ r, q % 2 = r := ⟨_, rfl⟩
  rw [hre] at m1 m2 hr ⊢
  clear hre
  go_enter Try.func14, Try.ntmps14
  go_wp2_with fail
  refine HC.out.mono ?_
  rintro e w1 ⟨rfl, rfl⟩
  go_wp2
  go_ret
  refine ⟨ret_bool ?_, rfl⟩
  rcases hr with rfl | rfl <;> rfl
end Go.Proofs.Yteggmpogcpceeaa
