/- slices.IndexFunc, slices.ContainsFunc at bytes; cell.all. -/
import Derived.Test.YtkodhpjmmiapaaaMk
import Derived.Test.YtkodhpjmmiapaaaHeld
import Derived.Deep.LoopGhost
import Derived.Shelf.Abstract
namespace Go.Proofs.Ytkodhpjmmiapaaa
open Go.RowKit
set_option linter.unusedVariables false
set_option linter.unusedSimpArgs false
set_option maxHeartbeats 1600000 in
theorem idx_bytes (g : Nat) (lb : Array Value) (eg : ∀ args w, (callFunc g args).run Try.prog w = .ok (.enter g args) w) (p : Nat → Bool) (a : Option Addr) (c : Nat) (xs : List Nat) (w : World) (h : RowB w a c xs) (hl : xs.length ≤ 1048576) (hx : ∀ x ∈ xs, x < 256)
    (hp : ∀ W x, Below w.heap.size w W → x < 256 → Calls Try.prog g (#[.int .u8 (x : Nat)] ++ lb) W fun e w' => e = .returned (.bool (p x)) ∧ Below W.heap.size W w') :
    Calls Try.prog 62 #[.slice a xs.length c, .func (.func g) #[] lb] w fun e w' => (∃ r : Int, e = .returned (.int .i64 r) ∧ decide (0 ≤ r) = xs.any p) ∧ Below w.heap.size w w' := by
  have HP := Lib.hid hp
  have HR := Lib.hid h
  have HX := Lib.hid hx
  obtain ⟨L, hL⟩ : ∃ L, L = xs.length := ⟨_, rfl⟩
  have HL := Lib.hid hL
  rw [← hL] at hl ⊢
  clear hL h hx hp
  go_enter Try.func62, Try.ntmps62
  go_wp2
  go_loopw [8] (fun i wr => ∃ I : Nat, i = .int .i64 I ∧ I ≤ L ∧ Hid (∀ j x, j < I → xs[j]? = some x → p x = false) ∧ Below w.heap.size w wr) (fun i _ => L - (intOf i).toNat)
  case atStart => exact ⟨0, rfl, by omega, Lib.hid (fun j x h => absurd h (Nat.not_lt_zero _)), Below.refl _ _⟩
  case round =>
    obtain ⟨I, rfl, hI, HA, hb⟩ := hrel
    by_cases hlt : I < L
    · obtain ⟨x, hx⟩ : ∃ x, xs[I]? = some x := ⟨_, List.getElem?_eq_getElem (by rw [← HL.out]; exact hlt)⟩
      have hx2 := HX.out x (List.mem_of_getElem? hx)
      obtain ⟨b, o, rfl, hc⟩ := (HR.out.below hb (Nat.le_refl _)).shape (by rw [← HL.out]; omega)
      have kx := hc I x hx
      have HC := Lib.hid (HP.out wr x hb hx2)
      have HXI := Lib.hid hx
      have HB := Lib.hid hb
      clear hx hc hb
      obtain ⟨q, hq⟩ : ∃ q, p x = q := ⟨_, rfl⟩
      rw [hq] at HC
      have HQ := Lib.hid hq
      clear hq
      cases q with
      | true =>
        go_wp2_with (go_at_fn g; refine HC.out.mono ?_; rintro e w' ⟨rfl, hb'⟩)
        go_ret
        refine ⟨⟨_, rfl, ?_⟩, below_two HB.out hb'⟩
        rw [decide_eq_true (by omega : (0 : Int) ≤ (I : Int))]
        symm
        exact List.any_eq_true.2 ⟨x, List.mem_of_getElem? HXI.out, HQ.out⟩
      | false =>
        go_wp2_with (go_at_fn g; refine HC.out.mono ?_; rintro e w' ⟨rfl, hb'⟩)
        go_round
        case rel =>
          refine ⟨I + 1, by go_num, by omega, Lib.hid (fun j y hj hy => ?_), below_two HB.out hb'⟩
          by_cases e : j = I
          · subst e
            have := HXI.out
            rw [hy] at this
            rw [Option.some.inj this]; exact HQ.out
          · exact HA.out j y (by omega) hy
        case measure => simp [intOf]; omega
    · go_wp2
      go_ret
      refine ⟨⟨_, rfl, ?_⟩, hb⟩
      symm
      rw [decide_eq_false (by omega), Bool.eq_false_iff]
      intro hany
      obtain ⟨x, hm, hpx⟩ := List.any_eq_true.1 hany
      obtain ⟨j, hj⟩ := List.getElem?_of_mem hm
      have := HA.out j x (by have := (List.getElem?_eq_some_iff.1 hj).1; have := HL.out; omega) hj
      rw [hpx] at this; cases this
theorem contains_bytes (g : Nat) (lb : Array Value) (eg : ∀ args w, (callFunc g args).run Try.prog w = .ok (.enter g args) w) (p : Nat → Bool) (a : Option Addr) (c : Nat) (xs : List Nat) (w : World) (h : RowB w a c xs) (hl : xs.length ≤ 1048576) (hx : ∀ x ∈ xs, x < 256)
    (hp : ∀ W x, Below w.heap.size w W → x < 256 → Calls Try.prog g (#[.int .u8 (x : Nat)] ++ lb) W fun e w' => e = .returned (.bool (p x)) ∧ Below W.heap.size W w') :
    Calls Try.prog 56 #[.slice a xs.length c, .func (.func g) #[] lb] w fun e w' => e = .returned (.bool (xs.any p)) ∧ Below w.heap.size w w' := by
  have HI := Lib.hid (idx_bytes g lb eg p a c xs w h hl hx hp)
  obtain ⟨L, hL⟩ : ∃ L, L = xs.length := ⟨_, rfl⟩
  rw [← hL] at HI ⊢
  obtain ⟨B, hB⟩ : ∃ B, xs.any p = B := ⟨_, rfl⟩
  rw [hB] at HI ⊢
  clear hL h hl hx hp eg hB
  go_enter Try.func56, Try.ntmps56
  go_wp2_with fail
  refine HI.out.mono ?_
  rintro e w1 ⟨⟨r, rfl, hr⟩, hb⟩
  have HRr := Lib.hid hr
  clear hr
  go_wp2
  go_ret
  exact ⟨ret_bool HRr.out, hb⟩
theorem read_zero (x : Nat) (w : World) : Calls Try.prog 44 #[.int .u8 (x : Nat)] w fun e w' => e = .returned (.bool (x == 0)) ∧ w = w' := by
  have e1 : ((x : Int) == 0) = (x == 0) := by
    by_cases h : x = 0
    · subst h; rfl
    · rw [show (x == 0) = false by rw [beq_eq_false_iff_ne]; exact h, beq_eq_false_iff_ne]; omega
  rw [← e1]
  clear e1
  go_enter Try.func44, Try.ntmps44
  go_wp2
  go_ret
  exact ⟨rfl, rfl⟩
set_option maxHeartbeats 1600000 in
theorem cell_all (a : Option Addr) (c : Nat) (xs : List Nat) (w : World) (h : RowB w a c xs) (hl : xs.length ≤ 1048576) (hx : ∀ x ∈ xs, x < 256) :
    Calls Try.prog 45 #[.slice a xs.length c, .func (.func 44) #[] #[]] w fun e w' => e = .returned (.bool (xs.all fun x => x == 0)) ∧ Below w.heap.size w w' := by
  have hmf : ∀ (fn : Fn) (first cap : Array Value) (w : World), (Instr.makeFunc fn first cap).run Try.prog w = .ok (.func fn first cap) w := fun _ _ _ _ => rfl
  have HC := Lib.hid fun W (hb : Below w.heap.size w W) hp => contains_bytes 57 #[.pointer (some ⟨w.heap.size, 0, none⟩)] (enters_of Try.func57 (by kernel_rfl) rfl) (fun x => !(x == 0)) a c xs W (h.below hb (Nat.le_refl _)) hl hx hp
  have HE : Hid ((xs.all fun x => x == 0) = !(xs.any fun x => !(x == 0))) := Lib.hid (by rw [List.all_eq_not_any_not])
  obtain ⟨L, hL⟩ : ∃ L, L = xs.length := ⟨_, rfl⟩
  rw [← hL] at HC ⊢
  clear hL h hl hx
  go_enter Try.func45, Try.ntmps45
  go_wp2_with fail
  have hB := (Below.refl w.heap.size w).alloc (Nat.le_refl _) (.cells #[.func (.func 44) #[] #[]] 90)
  refine (HC.out _ hB ?hp).mono ?_
  case hp =>
    intro W x hbW hx
    have k := (hbW.cell (p := ⟨w.heap.size, 0, none⟩) (by simp)).trans (show _ = some (Value.func (.func 44) #[] #[]) by simp [go_sem])
    simp only [List.push_toArray, List.append_toArray, List.cons_append, List.nil_append]
    have eg := enters_of Try.func44 (by kernel_rfl) rfl
    have HZ := Lib.hid fun W => read_zero x W
    obtain ⟨q, hq⟩ : ∃ q, (x == 0) = q := ⟨_, rfl⟩
    rw [hq] at HZ ⊢
    clear hq
    go_enter Try.func57, Try.ntmps57
    go_wp2_with fail
    refine (HZ.out _).mono ?_
    rintro e w' ⟨rfl, rfl⟩
    go_wp2
    go_ret
    exact ⟨ret_bool (by simp), Below.refl _ _⟩
  rintro e w1 ⟨rfl, hb1⟩
  obtain ⟨B, hBB⟩ : ∃ B, (xs.any fun x => !(x == 0)) = B := ⟨_, rfl⟩
  rw [hBB] at HE ⊢
  go_wp2
  go_ret
  exact ⟨ret_bool HE.out.symm, below_two hB hb1⟩
end Go.Proofs.Ytkodhpjmmiapaaa
