/- The contract of lockwrightref.Value. -/
import Derived.Test.YtfgmnlphejpcaaaPtsC
import Derived.Test.YtfgmnlphejpcaaaPw
import Derived.BigQuiet
namespace Go.Proofs.Ytfgmnlphejpcaaa
open Go.RowKit
set_option linter.unusedVariables false
set_option linter.unusedSimpArgs false
theorem ref_step {p x s k : Int} {xs : List Int} {I : Nat} (hp : 1 ≤ p) (hs : s = SumI I (fun i => co xs i * x ^ i) % p) (hk : k = co xs I) : (s + k * (x ^ I % p)) % p = SumI (I + 1) (fun i => co xs i * x ^ i) % p := by
  show _ = (SumI I _ + co xs I * x ^ I) % p
  rw [hs, hk, Int.emod_add_emod, Int.add_emod, Int.mul_emod, Int.emod_emod, ← Int.mul_emod, ← Int.add_emod]
set_option maxRecDepth 100000 in
set_option maxHeartbeats 3200000 in
theorem ref_Value (p x : Int) (a : Option Addr) (c : Nat) (xs : List Int) (w : World) {L : Nat} (h : RowL w a c xs) (eL : xs.length = L) (hl : L ≤ 13) (hp : 2 ≤ p) (hp2 : p ≤ 251) (hx : 0 ≤ x) (hx2 : x < p) (hr : ∀ y ∈ xs, 0 ≤ y ∧ y < p) :
    Calls Try.prog 26 #[.int .i64 p, .slice a L c, .int .i64 x] w fun e w' => e = .returned (.int .i64 (valL p xs x)) ∧ Below w.heap.size w w' := by
  have HL := Lib.hid eL
  have HR := Lib.hid h
  have HX := Lib.hid hr
  have HF : Hid (valL p xs x = SumI L (fun i => co xs i * x ^ i) % p) := Lib.hid (by rw [valL_ev, ev_sum, eL])
  have HSt := Lib.hid fun (I : Nat) (s k : Int) => ref_step (p := p) (x := x) (s := s) (k := k) (xs := xs) (I := I) (by omega)
  have HP := Lib.hid fun (I : Nat) w (hI : I ≤ 13) => ref_Pow x I p w (by omega) (by omega) (by omega) (by omega)
  have z0 : (p == 0) = false := by simp; omega
  have z1 : ¬ p = 0 := by omega
  clear h eL hr
  go_enter Try.func26, Try.ntmps26
  go_wp2
  go_loopw [8, 7] (fun i s wr => ∃ (I : Nat) (S : Int), i = .int .i64 I ∧ s = .int .i64 S ∧ I ≤ L ∧ 0 ≤ S ∧ S < p ∧ Below w.heap.size w wr ∧ Hid (S = SumI I (fun i => co xs i * x ^ i) % p)) (fun i _ _ => L - (intOf i).toNat)
  case atStart => exact ⟨0, 0, rfl, rfl, Nat.zero_le _, Int.le_refl _, by omega, Below.refl _ _, Lib.hid (by show (0 : Int) = 0 % p; simp)⟩
  case round =>
    obtain ⟨I, S, rfl, rfl, hI, s1, s2, hb, HS⟩ := hrel
    by_cases hlt : I < L
    · obtain ⟨k, hk⟩ : ∃ k, xs[I]? = some k := ⟨_, List.getElem?_eq_getElem (by rw [HL.out]; omega)⟩
      obtain ⟨b, o, rfl, hcell⟩ := (HR.out.below hb (Nat.le_refl _)).shape (by rw [HL.out]; omega)
      have kx := hcell I k hk
      obtain ⟨k1, k2⟩ := HX.out k (List.mem_of_getElem? hk)
      have hkc : k = co xs I := by unfold co; rw [List.getD_eq_getElem?_getD, hk]; rfl
      have HN := Lib.hid (HSt.out I S k HS.out hkc)
      have HPI := Lib.hid fun w => HP.out I w (by omega)
      have hpw : pw x I p = x ^ I % p := by simp [pw]
      rw [hpw] at HPI
      have q1 := Int.emod_nonneg (x ^ I) (show p ≠ 0 by omega)
      have q2 := Int.emod_lt_of_pos (x ^ I) (show 0 < p by omega)
      obtain ⟨Y, hY⟩ : ∃ Y, x ^ I % p = Y := ⟨_, rfl⟩
      rw [hY] at HPI HN q1 q2
      obtain ⟨m1, m2⟩ := mul_bd2 hp2 k1 k2 q1 q2
      have f1 : IntKind.i64.wrap (k * Y) = k * Y := IntWalk.i64_in _ (by omega)
      have f2 : IntKind.i64.wrap (S + k * Y) = S + k * Y := IntWalk.i64_in _ (by omega)
      have f3 : (S + k * Y).tmod p = (S + k * Y) % p := Int.tmod_eq_emod_of_nonneg (by omega)
      have r1 := Int.emod_nonneg (S + k * Y) (show p ≠ 0 by omega)
      have r2 := Int.emod_lt_of_pos (S + k * Y) (show 0 < p by omega)
      clear hcell hk hkc hpw hY
      go_wp2_with fail
      go_quiet ((go_at_call 50; exact quiet_same (HPI.out _)))
      go_wp2
      go_round
      case rel => exact ⟨I + 1, _, by go_num, rfl, by omega, r1, r2, by first | exact below_drewN hb _ | exact hb, HN⟩
      case measure => simp [intOf]; omega
    · obtain rfl : I = L := by omega
      have HE := Lib.hid (HF.out.trans HS.out.symm)
      go_wp2
      go_ret
      exact ⟨by rw [HE.out]; rfl, hb⟩
end Go.Proofs.Ytfgmnlphejpcaaa
