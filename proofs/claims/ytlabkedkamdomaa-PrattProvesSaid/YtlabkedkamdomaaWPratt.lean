/- The walk of the statement PrattProves. -/
import Derived.Test.YtlabkedkamdomaaPra2
import Derived.Test.YtlabkedkamdomaaRefIs
namespace Go.Proofs.Ytlabkedkamdomaa
open Go.RowKit
set_option linter.unusedVariables false
set_option linter.unusedSimpArgs false
theorem RowN.empty (W : World) : RowN W none (fun _ => (none, 0)) [] := ⟨fun _ => rfl, (fun ad e => by cases e), (fun i xs h => by simp at h)⟩
theorem prB_of {x : Int} (h : M.PrI x) : prB x = true := prB_yes h.2
set_option maxHeartbeats 1600000 in
theorem WPrattProves (a0 : Option Addr) (len0 cap0 : Nat) (z0 : List M.Ln) (w : World) (w0 : IsLns w a0 len0 cap0 z0) :
    Calls Try.prog 13 #[.slice a0 len0 cap0] w fun e w' => e = .returned (.bool true) ∧ Below w.heap.size w w' := by
  obtain ⟨hL, hl, ⟨R, hr⟩, hf⟩ := w0
  by_cases h64 : 64 < len0
  · clear hr hf
    go_enter Try.func13, Try.ntmps13
    go_wp2_with fail
    refine (pratt_Check_long a0 len0 cap0 _ h64 hl).mono ?_
    rintro e w' ⟨rfl, rfl⟩
    go_wp2
    go_ret
    exact ⟨rfl, Below.refl _ _⟩
  · have HC := Lib.hid (pratt_Check a0 R z0 len0 cap0 w hr hL (by omega) hf)
    have HR := Lib.hid hr
    have HL := Lib.hid hL
    have HP : Hid (checkB z0 = true → ∀ x ∈ z0, M.PrI x.n ∧ x.n ≤ 2147483648) := Lib.hid fun h x hx => ⟨check_prime h hx, by
      obtain ⟨i, hi⟩ := List.getElem?_of_mem hx
      have hl := (List.getElem?_eq_some_iff.1 hi).1
      have h2 := List.all_eq_true.1 h i (List.mem_range.2 hl)
      unfold M.holdB at h2
      rw [List.getD_eq_getElem?_getD, hi] at h2
      have := M.line_le h2
      exact Int.le_trans this (by decide)⟩
    have HF := Lib.hid hf
    clear hr hL hf
    obtain ⟨Y, hY⟩ : ∃ Y, checkB z0 = Y := ⟨_, rfl⟩
    rw [hY] at HC HP
    clear hY
    have HC0 := Lib.hid (fun W => pratt_Check none (fun _ => (none, 0)) [] 0 0 W (RowN.empty W) rfl (by decide) (by simp))
    have e0 : checkB [] = true := rfl
    rw [e0] at HC0
    clear e0
    go_enter Try.func13, Try.ntmps13
    go_wp2_with fail
    refine HC.out.mono ?_
    rintro e w1 ⟨rfl, hb1⟩
    go_wp2_with fail
    refine (HC0.out _).mono ?_
    rintro e w2 ⟨rfl, hb2⟩
    have hb := below_two hb1 hb2
    clear hb1 hb2
    go_wp2
    go_loopw [35] (fun ix wr => ∃ I : Nat, ix = .int .i64 (I : Int) ∧ I ≤ len0 ∧ Below w.heap.size w wr) (fun ix _ => len0 - (intOf ix).toNat)
    case atStart => exact ⟨0, rfl, Nat.zero_le _, hb⟩
    case round =>
      obtain ⟨I, rfl, hI, hb⟩ := hrel
      by_cases hIl : I < len0
      · obtain ⟨x, hx⟩ : ∃ x, z0[I]? = some x := ⟨_, List.getElem?_eq_getElem (by rw [HL.out]; exact hIl)⟩
        obtain ⟨b, o, rfl, hc⟩ := (HR.out.below hb (Nat.le_refl _)).shape (by rw [HL.out]; omega)
        obtain ⟨k0, k1, k2⟩ := hc I x hx
        have HX := Lib.hid hx
        clear hc hx
        have hzz := hb.size
        cases Y with
        | false =>
          go_wp2
          go_roundw
          case rel => exact ⟨I + 1, by go_num, by omega, hb.alloc hzz _⟩
          case measure => simp [intOf]; omega
        | true =>
          have HRI := Lib.hid (fun W => ref_Is x.n W (HP.out rfl x (List.mem_of_getElem? HX.out)).2)
          rw [prB_of (HP.out rfl x (List.mem_of_getElem? HX.out)).1] at HRI
          go_wp2_with fail
          refine (HRI.out _).mono ?_
          rintro e w' ⟨rfl, rfl⟩
          go_wp2
          go_roundw
          case rel => exact ⟨I + 1, by go_num, by omega, hb.alloc hzz _⟩
          case measure => simp [intOf]; omega
      · go_wp2
        go_ret
        exact ⟨rfl, hb⟩
end Go.Proofs.Ytlabkedkamdomaa
