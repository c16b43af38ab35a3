/- The reference's Seal. -/
import Derived.Test.YtabhmhojlhagcaaFeS
namespace Go.Proofs.Ytabhmhojlhagcaa
open Go.RowKit
set_option linter.unusedVariables false
set_option linter.unusedSimpArgs false
theorem xor_half : ∀ a, a < 16 → ∀ b, b < 16 → a ^^^ b = (if a % 2 = b % 2 then 0 else 1) + 2 * (a / 2 ^^^ b / 2) := by decide +kernel
theorem pow2_8 {K : Nat} (hK : K < 8) : wrap64 ((2 : Int) ^ K) = ((2 ^ K : Nat) : Int) := by
  rcases (by omega : K = 0 ∨ K = 1 ∨ K = 2 ∨ K = 3 ∨ K = 4 ∨ K = 5 ∨ K = 6 ∨ K = 7) with rfl | rfl | rfl | rfl | rfl | rfl | rfl | rfl <;> simp [wrap64]
set_option maxHeartbeats 1600000 in
theorem ref_xor (a0 b0 : Nat) (w : World) (ha : a0 < 16) (hb : b0 < 16) :
    Calls Try.prog 35 #[.int .i64 a0, .int .i64 b0] w fun e w' => e = .returned (.int .i64 (a0 ^^^ b0 : Nat)) ∧ w = w' := by
  have HX : Hid (∃ x, x = a0 ^^^ b0) := Lib.hid ⟨_, rfl⟩
  obtain ⟨X, hX⟩ : ∃ X, a0 ^^^ b0 = X := ⟨_, rfl⟩
  have HI : Hid (X = 0 + (a0 ^^^ b0) * 2 ^ 0) := Lib.hid (by rw [hX]; omega)
  have hXl : X < 16 := by rw [← hX]; exact Nat.xor_lt_two_pow (n := 4) ha hb
  rw [hX]
  clear hX HX
  go_enter Try.func35, Try.ntmps35
  go_wp2
  go_loop [0, 1, 5, 6] (fun av bv nv kv => ∃ (a b n K : Nat), av = .int .i64 (a : Int) ∧ bv = .int .i64 (b : Int) ∧ nv = .int .i64 (n : Int) ∧ kv = .int .i64 (K : Int) ∧ a < 16 ∧ b < 16 ∧ K ≤ 8 ∧ (K = 8 → a = 0 ∧ b = 0) ∧ a * 2 ^ K < 256 ∧ b * 2 ^ K < 256 ∧ Hid (X = n + (a ^^^ b) * 2 ^ K)) (fun _ _ _ k => 8 - (intOf k).toNat)
  case atStart => exact ⟨a0, b0, 0, 0, rfl, rfl, rfl, rfl, ha, hb, by omega, by omega, by omega, by omega, HI⟩
  case round =>
    obtain ⟨a, b, n, K, rfl, rfl, rfl, rfl, ha, hb, hK, hz, la, lb, HR⟩ := hrel
    by_cases hlt : K < 8
    · have hp := pow2_8 hlt
      have hn : n < 16 := by have := HR.out; omega
      have hP : 2 ^ K ≤ 2 ^ 7 := Nat.pow_le_pow_right (by omega) (by omega)
      have hx := xor_half a ha b hb
      have hs : 2 ^ (K + 1) = 2 * 2 ^ K := by rw [Nat.pow_succ, Nat.mul_comm]
      have la2 : a / 2 * 2 ^ (K + 1) ≤ a * 2 ^ K := by
        rw [hs, ← Nat.mul_assoc]; exact Nat.mul_le_mul_right _ (by omega)
      have lb2 : b / 2 * 2 ^ (K + 1) ≤ b * 2 ^ K := by
        rw [hs, ← Nat.mul_assoc]; exact Nat.mul_le_mul_right _ (by omega)
      have hz2 : K + 1 = 8 → a / 2 = 0 ∧ b / 2 = 0 := fun e => by
        have : K = 7 := by omega
        subst this
        omega
      have LA : Hid (a / 2 * 2 ^ (K + 1) < 256 ∧ b / 2 * 2 ^ (K + 1) < 256 ∧ (K + 1 = 8 → a / 2 = 0 ∧ b / 2 = 0)) := Lib.hid ⟨by omega, by omega, hz2⟩
      obtain ⟨P, hPe⟩ : ∃ P, 2 ^ K = P := ⟨_, rfl⟩
      by_cases he : a % 2 = b % 2
      · have HN : Hid (X = n + (a / 2 ^^^ b / 2) * 2 ^ (K + 1)) := Lib.hid (by
          have := HR.out
          rw [hx, if_pos he] at this
          rw [hs, this]; grind)
        have hne : ((a : Int) % 2 != (b : Int) % 2) = false := by simp; omega
        clear hx hs la2 lb2 hz2 la lb hp hP hPe hz he
        go_wp2
        go_round
        case rel => exact ⟨a / 2, b / 2, n, K + 1, by go_num, by go_num, rfl, by go_num, by omega, by omega, by omega, LA.out.2.2, LA.out.1, LA.out.2.1, HN⟩
        case measure => simp [intOf]; omega
      · have HN : Hid (X = (n + 2 ^ K) + (a / 2 ^^^ b / 2) * 2 ^ (K + 1)) := Lib.hid (by
          have := HR.out
          rw [hx, if_neg he] at this
          rw [hs, this]; grind)
        have hne : ((a : Int) % 2 != (b : Int) % 2) = true := by simp; omega
        rw [hPe] at hp HN hP
        clear hx hs la2 lb2 hz2 la lb hPe hz he
        go_wp2
        go_round
        case rel => exact ⟨a / 2, b / 2, n + P, K + 1, by go_num, by go_num, by go_num, by go_num, by omega, by omega, by omega, LA.out.2.2, LA.out.1, LA.out.2.1, HN⟩
        case measure => simp [intOf]; omega
    · have e : K = 8 := by omega
      obtain ⟨z1, z2⟩ := hz e
      have HN : Hid (X = n) := Lib.hid (by have := HR.out; rw [z1, z2] at this; simpa using this)
      clear hz HR la lb
      go_wp2
      go_ret
      exact ⟨ret_int (by rw [HN.out]), rfl⟩
set_option maxHeartbeats 1600000 in
theorem ref_Seal (a : Option Addr) (c : Nat) (R : Nat → Option Addr × Nat) (rows : List (List Int)) (x : Nat) (w : World) (L : Nat) (h : RowR w a c R rows) (hL : rows.length = L) (hr : Rnd rows) (hx : x < 256) :
    Calls Try.prog 21 #[.slice a L c, .int .i64 x] w fun e w' => e = .returned (.int .i64 (sealN rows x)) ∧ ∃ n, w' = w.drewN n := by
  have HR := Lib.hid h
  have HL := Lib.hid hL
  have HN := Lib.hid hr
  have HQ : Hid (∀ lr, lr = sealP rows (prN x) → lr.1 * 16 + lr.2 = sealN rows x) := Lib.hid (by rintro lr rfl; rfl)
  have l64 := hr.len
  rw [hL] at l64
  have H0 := Lib.hid (In16.pr hx)
  have HX : Hid (x = x / 16 * 16 + x % 16) := Lib.hid (by omega)
  clear h hL hr
  go_enter Try.func21, Try.ntmps21
  go_wp2
  go_loopw [1, 9] (fun xv i wr => ∃ (I l r : Nat), i = .int .i64 I ∧ xv = .int .i64 ((l * 16 + r : Nat) : Int) ∧ I ≤ L ∧ l < 16 ∧ r < 16 ∧ Hid ((l, r) = sealP (rows.take I) (prN x)) ∧ ∃ n, wr = w.drewN n) (fun _ i _ => L - (intOf i).toNat)
  case atStart => exact ⟨0, x / 16, x % 16, rfl, by rw [← HX.out], Nat.zero_le _, H0.out.1, H0.out.2, Lib.hid rfl, 0, rfl⟩
  case round =>
    obtain ⟨I, l, r, rfl, rfl, hI, hl, hr, HP, n, rfl⟩ := hrel
    by_cases hlt : I < L
    · obtain ⟨row, hrow⟩ : ∃ r, rows[I]? = some r := ⟨_, List.getElem?_eq_getElem (by rw [HL.out]; exact hlt)⟩
      have hm := List.mem_of_getElem? hrow
      obtain ⟨b, o, rfl, hc⟩ := HR.out.shape (by rw [HL.out]; omega)
      have kx := hc I row hrow
      have h16 := HN.out.row row hm
      obtain ⟨b2, o2, hb2, hc2⟩ := (HR.out.row I row hrow).shape (by omega)
      rw [hb2, h16] at kx
      have kr := hc2 r _ (atN_cast HN.out hm hr)
      have hs := sealP_next hrow (prN x)
      rw [← HP.out] at hs
      have hv := atN_lt HN.out hm r
      have HS : Hid ((r, l ^^^ atN row r) = sealP (rows.take (I + 1)) (prN x)) := Lib.hid hs.symm
      clear hs hc hrow hm hc2 hb2 h16
      obtain ⟨v, hvv⟩ : ∃ v, atN row r = v := ⟨_, rfl⟩
      rw [hvv] at kr hv HS
      clear hvv
      have HC := Lib.hid (fun W => ref_xor l v W hl hv)
      have hxl : l ^^^ v < 16 := Nat.xor_lt_two_pow (n := 4) hl hv
      obtain ⟨y, hy⟩ : ∃ y, l ^^^ v = y := ⟨_, rfl⟩
      rw [hy] at HC hxl HS
      clear hy
      obtain ⟨z, hz⟩ : ∃ z, l * 16 + r = z := ⟨_, rfl⟩
      have q1 : (z : Int) % 16 = r := by omega
      have q2 : (z : Int) / 16 = l := by omega
      have q3 : (z : Int).tmod 16 = r := by rw [Int.tmod_eq_emod_of_nonneg (by omega)]; exact q1
      have q4 : (z : Int).tdiv 16 = l := by rw [Int.tdiv_eq_ediv_of_nonneg (by omega)]; exact q2
      have zl : z < 256 := by omega
      rw [hz]
      clear hz
      have i1 : (0 : Int) ≤ I := by omega
      have i2 : (I : Int) < L := by omega
      have i3 : (0 : Int) ≤ r := by omega
      have i4 : (r : Int) < 16 := by omega
      go_wp2_with fail
      refine (HC.out _).mono ?_
      rintro e w' ⟨rfl, rfl⟩
      go_wp2
      go_roundw
      case rel => exact ⟨I + 1, r, y, by go_num, by go_num, by omega, hr, hxl, HS, n, rfl⟩
      case measure => simp [intOf]; omega
    · obtain rfl : I = L := by omega
      have HT := Lib.hid (HQ.out (l, r) (by rw [HP.out, List.take_of_length_le (by rw [HL.out]; exact Nat.le_refl _)]))
      have HT2 : Hid (l * 16 + r = sealN rows x) := HT
      rw [HT2.out]
      go_wp2
      go_ret
      exact ⟨rfl, n, rfl⟩
end Go.Proofs.Ytabhmhojlhagcaa
