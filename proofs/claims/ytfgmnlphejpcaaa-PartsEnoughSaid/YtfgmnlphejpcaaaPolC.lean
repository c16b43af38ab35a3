/- The contracts of poly.prime, Check, both; the reference's PrimeCheck, PolyCheck, Longs. -/
import Derived.Test.YtfgmnlphejpcaaaRowL
import Derived.Test.YtfgmnlphejpcaaaPrC
import Derived.Test.YtfgmnlphejpcaaaRefIs
namespace Go.Proofs.Ytfgmnlphejpcaaa
open Go.RowKit
set_option linter.unusedVariables false
set_option linter.unusedSimpArgs false
/-- what is wrong with a prime -/
noncomputable def primeE (p : Int) : Int := if p < 2 ∨ 251 < p then 2 else if prB p = true then 0 else 3
theorem primeE_zero {p : Int} (h : primeE p = 0) : 2 ≤ p ∧ p ≤ 251 ∧ prB p = true := by
  unfold primeE at h
  split at h
  · omega
  · split at h
    · rename_i h1 h2; exact ⟨by omega, by omega, h2⟩
    · omega
theorem poly_prime (p : Int) (w : World) :
    Calls Try.prog 37 #[.int .i64 p] w fun e w' => e = .returned (.int .i64 (primeE p)) ∧ Below w.heap.size w w' := by
  by_cases h1 : p < 2
  · have e : primeE p = 2 := if_pos (.inl h1)
    rw [e]
    clear e
    go_enter Try.func37, Try.ntmps37
    go_wp2
    go_ret
    exact ⟨rfl, Below.refl _ _⟩
  · by_cases h2 : 251 < p
    · have e : primeE p = 2 := if_pos (.inr h2)
      rw [e]
      clear e
      go_enter Try.func37, Try.ntmps37
      go_wp2
      go_ret
      exact ⟨rfl, Below.refl _ _⟩
    · have e : primeE p = if prB p = true then 0 else 3 := if_neg (by omega)
      rw [e]
      have HI := Lib.hid fun w => primes_Is_in p w (by omega) (by omega)
      obtain ⟨b, hb⟩ : ∃ b, prB p = b := ⟨_, rfl⟩
      rw [hb] at HI ⊢
      clear e hb
      cases b
      all_goals
        go_enter Try.func37, Try.ntmps37
        go_wp2_with fail
        refine (HI.out _).mono ?_
        rintro e w1 ⟨rfl, hb1⟩
        go_wp2
        go_ret
        exact ⟨rfl, hb1⟩
theorem ref_PrimeCheck (p : Int) (w : World) :
    Calls Try.prog 49 #[.int .i64 p] w fun e w' => e = .returned (.int .i64 (primeE p)) ∧ w = w' := by
  by_cases h1 : p < 2
  · have e : primeE p = 2 := if_pos (.inl h1)
    rw [e]
    clear e
    go_enter Try.func49, Try.ntmps49
    go_wp2
    go_ret
    exact ⟨rfl, rfl⟩
  · by_cases h2 : 251 < p
    · have e : primeE p = 2 := if_pos (.inr h2)
      rw [e]
      clear e
      go_enter Try.func49, Try.ntmps49
      go_wp2
      go_ret
      exact ⟨rfl, rfl⟩
    · have e : primeE p = if prB p = true then 0 else 3 := if_neg (by omega)
      rw [e]
      have HI := Lib.hid fun w => ref_Is p w (by omega)
      obtain ⟨b, hb⟩ : ∃ b, prB p = b := ⟨_, rfl⟩
      rw [hb] at HI ⊢
      clear e hb
      cases b
      all_goals
        go_enter Try.func49, Try.ntmps49
        go_wp2_with fail
        refine (HI.out _).mono ?_
        rintro e w' ⟨rfl, rfl⟩
        go_wp2
        go_ret
        exact ⟨rfl, rfl⟩
/-- is a number out of range -/
def badB (p x : Int) : Bool := decide (x < 0) || decide (p ≤ x)
/-- what is wrong with a polynomial -/
noncomputable def polyE (p : Int) (a : List Int) : Int :=
  if primeE p ≠ 0 then primeE p else if 13 < a.length then 1 else if a.any (badB p) = true ∨ (a ≠ [] ∧ a.getLastD 1 = 0) then 4 else 0
/-- a polynomial that may be -/
structure Good (p : Int) (a : List Int) : Prop where
  pr : primeE p = 0
  len : a.length ≤ 13
  rng : ∀ x ∈ a, 0 ≤ x ∧ x < p
  last : a.getLastD 1 ≠ 0
theorem polyE_zero {p : Int} {a : List Int} : polyE p a = 0 ↔ Good p a := by
  unfold polyE
  constructor
  · intro h
    split at h
    · rename_i h1; exact absurd h h1
    · rename_i h1
      split at h
      · omega
      · split at h
        · omega
        · rename_i h2 h3
          have hp : primeE p = 0 := by simpa using h1
          refine ⟨hp, by omega, fun x hx => ?_, fun e => h3 (.inr ⟨fun e2 => by rw [e2] at e; simp at e, e⟩)⟩
          have : ¬ badB p x = true := fun e => h3 (.inl (List.any_eq_true.2 ⟨x, hx, e⟩))
          simp [badB] at this
          omega
  · rintro ⟨h1, h2, h3, h4⟩
    rw [if_neg (by simpa using h1), if_neg (by omega), if_neg]
    rintro (h | ⟨_, h⟩)
    · obtain ⟨x, hx, hb⟩ := List.any_eq_true.1 h
      have := h3 x hx
      simp [badB] at hb
      omega
    · exact h4 h
theorem Good.prime {p : Int} {a : List Int} (h : Good p a) : 2 ≤ p ∧ p ≤ 251 ∧ prB p = true := primeE_zero h.pr
theorem bad_c (p x : Int) (b : Nat) (w : World) (hb : w.cell? ⟨b, 0, none⟩ = some (.int .i64 p)) :
    Calls Try.prog 38 #[.int .i64 x, .pointer (some ⟨b, 0, none⟩)] w fun e w' => e = .returned (.bool (badB p x)) ∧ Below w.heap.size w w' := by
  by_cases h : x < 0
  · have e : badB p x = true := by simp [badB]; omega
    rw [e]
    clear e
    go_enter Try.func38, Try.ntmps38
    go_wp2
    go_ret
    exact ⟨rfl, Below.refl _ _⟩
  · have e : badB p x = decide (p ≤ x) := by simp [badB]; omega
    rw [e]
    clear e
    go_enter Try.func38, Try.ntmps38
    go_wp2
    go_ret
    exact ⟨ret_bool (by simp), Below.refl _ _⟩
set_option maxRecDepth 20000 in
set_option maxHeartbeats 3200000 in
theorem poly_Check (p : Int) (a : Option Addr) (c : Nat) (xs : List Int) (w : World) (h : RowL w a c xs) (hl : xs.length ≤ maxLen) :
    Calls Try.prog 14 #[.int .i64 p, .slice a xs.length c] w fun e w' => e = .returned (.int .i64 (polyE p xs)) ∧ Below w.heap.size w w' := by
  unfold maxLen at hl
  have HP := Lib.hid fun w => poly_prime p w
  by_cases h0 : primeE p = 0
  · by_cases hlong : 13 < xs.length
    · have e : polyE p xs = 1 := by unfold polyE; rw [if_neg (by simpa using h0), if_pos hlong]
      rw [e]
      rw [h0] at HP
      obtain ⟨L, hL⟩ : ∃ L, xs.length = L := ⟨_, rfl⟩
      rw [hL] at hl hlong ⊢
      have d1 : decide (13 < (L : Int)) = true := decide_eq_true (by omega)
      clear e h0 h hL
      go_enter Try.func14, Try.ntmps14
      go_wp2_with fail
      refine (HP.out _).mono ?_
      rintro e w1 ⟨rfl, hb1⟩
      go_wp2
      go_ret
      exact ⟨rfl, below_two ((Below.refl _ _).alloc (Nat.le_refl _) _) hb1⟩
    · have e : polyE p xs = if xs.any (badB p) = true ∨ (xs ≠ [] ∧ xs.getLastD 1 = 0) then 4 else 0 := by
        unfold polyE; rw [if_neg (by simpa using h0), if_neg hlong]
      rw [e]
      rw [h0] at HP
      have hmf : ∀ (fn : Fn) (first cap : Array Value) (w : World), (Instr.makeFunc fn first cap).run Try.prog w = .ok (.func fn first cap) w := fun _ _ _ _ => rfl
      have HC := Lib.hid fun W (hb : Below w.heap.size w W) (b : Nat) (hbc : W.cell? ⟨b, 0, none⟩ = some (.int .i64 p)) =>
        contains_longs 38 #[.pointer (some ⟨b, 0, none⟩)] (enters_of Try.func38 (by kernel_rfl) rfl) (badB p) a c xs W (h.below hb (Nat.le_refl _)) (by omega)
          (fun W' x hb' _ => bad_c p x b W' ((hb'.cell (p := ⟨b, 0, none⟩) (World.block_lt_of_cell? W _ hbc)).trans hbc))
      obtain ⟨B, hB⟩ : ∃ B, xs.any (badB p) = B := ⟨_, rfl⟩
      rw [hB] at HC ⊢
      have HR := Lib.hid h
      obtain ⟨L, hL⟩ : ∃ L, L = xs.length := ⟨_, rfl⟩
      have HL := Lib.hid hL
      rw [← hL] at HC hl hlong ⊢
      have d1 : decide (13 < (L : Int)) = false := decide_eq_false (by omega)
      clear e h0 h hL hB
      cases B with
      | true =>
        rw [if_pos (.inl rfl)]
        go_enter Try.func14, Try.ntmps14
        go_wp2_with fail
        refine (HP.out _).mono ?_
        rintro e w1 ⟨rfl, hb1⟩
        have z1 := hb1.size
        simp at z1
        have k0 := kept hb1 (b := w.heap.size) (o := 0) (v := .int .i64 p) (by simp [go_sem]) (by simp [go_sem])
        replace hb1 := below_two ((Below.refl _ _).alloc (Nat.le_refl _) _) hb1
        go_wp2_with fail
        refine (HC.out _ hb1 w.heap.size k0).mono ?_
        rintro e w2 ⟨rfl, hb2⟩
        go_wp2
        go_ret
        exact ⟨rfl, below_two hb1 hb2⟩
      | false =>
        by_cases hz : L = 0
        · have hx : xs = [] := List.length_eq_zero_iff.1 (HL.out.symm.trans hz)
          rw [if_neg (by rw [hx]; simp)]
          subst hz
          go_enter Try.func14, Try.ntmps14
          go_wp2_with fail
          refine (HP.out _).mono ?_
          rintro e w1 ⟨rfl, hb1⟩
          have z1 := hb1.size
          simp at z1
          have k0 := kept hb1 (b := w.heap.size) (o := 0) (v := .int .i64 p) (by simp [go_sem]) (by simp [go_sem])
          replace hb1 := below_two ((Below.refl _ _).alloc (Nat.le_refl _) _) hb1
          go_wp2_with fail
          refine (HC.out _ hb1 w.heap.size k0).mono ?_
          rintro e w2 ⟨rfl, hb2⟩
          go_wp2
          go_ret
          exact ⟨rfl, below_two hb1 hb2⟩
        · obtain ⟨x, hx⟩ : ∃ x, xs[L - 1]? = some x := ⟨_, List.getElem?_eq_getElem (by rw [← HL.out]; omega)⟩
          have hlast : xs.getLastD 1 = x := by
            rw [List.getLastD_eq_getLast?, List.getLast?_eq_getElem?, ← HL.out, hx]; rfl
          have hne : xs ≠ [] := fun e => hz (by rw [HL.out, e]; rfl)
          have e4 : (if false = true ∨ (xs ≠ [] ∧ xs.getLastD 1 = 0) then (4 : Int) else 0) = if x = 0 then 4 else 0 := by
            rw [hlast]
            by_cases e : x = 0
            · rw [if_pos (.inr ⟨hne, e⟩), if_pos e]
            · rw [if_neg (by simp [e]), if_neg e]
          rw [e4]
          have HX := Lib.hid hx
          clear e4 hlast hne hx
          have hsub : (L : Int) - 1 = ((L - 1 : Nat) : Int) := by omega
          by_cases hx0 : x = 0
          · rw [if_pos hx0]
            subst hx0
            go_enter Try.func14, Try.ntmps14
            go_wp2_with fail
            refine (HP.out _).mono ?_
            rintro e w1 ⟨rfl, hb1⟩
            have z1 := hb1.size
            simp at z1
            have k0 := kept hb1 (b := w.heap.size) (o := 0) (v := .int .i64 p) (by simp [go_sem]) (by simp [go_sem])
            replace hb1 := below_two ((Below.refl _ _).alloc (Nat.le_refl _) _) hb1
            go_wp2_with fail
            refine (HC.out _ hb1 w.heap.size k0).mono ?_
            rintro e w2 ⟨rfl, hb2⟩
            replace hb2 := below_two hb1 hb2
            obtain ⟨b, o, rfl, hc⟩ := (HR.out.below hb2 (Nat.le_refl _)).shape (by rw [← HL.out]; omega)
            have kx := hc _ _ HX.out
            clear hc
            go_wp2
            go_ret
            exact ⟨rfl, hb2⟩
          · rw [if_neg hx0]
            have e1 : (x == 0) = false := by simpa using hx0
            go_enter Try.func14, Try.ntmps14
            go_wp2_with fail
            refine (HP.out _).mono ?_
            rintro e w1 ⟨rfl, hb1⟩
            have z1 := hb1.size
            simp at z1
            have k0 := kept hb1 (b := w.heap.size) (o := 0) (v := .int .i64 p) (by simp [go_sem]) (by simp [go_sem])
            replace hb1 := below_two ((Below.refl _ _).alloc (Nat.le_refl _) _) hb1
            go_wp2_with fail
            refine (HC.out _ hb1 w.heap.size k0).mono ?_
            rintro e w2 ⟨rfl, hb2⟩
            replace hb2 := below_two hb1 hb2
            obtain ⟨b, o, rfl, hc⟩ := (HR.out.below hb2 (Nat.le_refl _)).shape (by rw [← HL.out]; omega)
            have kx := hc _ _ HX.out
            clear hc
            go_wp2
            go_ret
            exact ⟨rfl, hb2⟩
  · have e : polyE p xs = primeE p := by unfold polyE; rw [if_pos h0]
    rw [e]
    obtain ⟨t, ht⟩ : ∃ t, primeE p = t := ⟨_, rfl⟩
    rw [ht] at HP h0 ⊢
    obtain ⟨L, hL⟩ : ∃ L, xs.length = L := ⟨_, rfl⟩
    rw [hL] at hl ⊢
    have e1 : (t == 0) = false := by simpa using h0
    have e2 : (t != 0) = true := by simpa using h0
    clear e h0 h hL ht
    go_enter Try.func14, Try.ntmps14
    go_wp2_with fail
    refine (HP.out _).mono ?_
    rintro e w1 ⟨rfl, hb1⟩
    go_wp2
    go_ret
    exact ⟨rfl, below_two ((Below.refl _ _).alloc (Nat.le_refl _) _) hb1⟩
end Go.Proofs.Ytfgmnlphejpcaaa
