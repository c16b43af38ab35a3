/- share.Split where it refuses. -/
import Derived.Test.YtfgmnlphejpcaaaSplit
namespace Go.Proofs.Ytfgmnlphejpcaaa
open Go.RowKit Go.Maps
set_option linter.unusedVariables false
set_option linter.unusedSimpArgs false
set_option maxRecDepth 100000 in
set_option maxHeartbeats 6400000 in
theorem share_Split_bad (p s n : Int) (a : Option Addr) (c : Nat) (more : List Int) (w : World) {L : Nat} (hbad : ¬ GoodS p s more n) (h : RowL w a c more) (eL : more.length = L) (hL63 : L ≤ 9223372036854775807) :
    Calls Try.prog 27 #[.int .i64 p, .int .i64 s, .slice a L c, .int .i64 n] w fun e w' =>
      (∃ t, t ≠ 0 ∧ e = .returned (.tuple #[.slice none 0 0, .int .i64 t])) ∧ Below w.heap.size w w' := by
  have HCh := Lib.hid fun w => poly_Check p none 0 [] w (RowL.nil w) (by simp)
  simp only [List.length_nil, polyE_nil] at HCh
  by_cases hpr : primeE p = 0
  · have hp := primeE_zero hpr
    rw [hpr] at HCh
    by_cases hlen : 12 < L
    · have d1 : decide (12 < (L : Int)) = true := decide_eq_true (by omega)
      clear hbad hp hpr eL h
      go_enter Try.func27, Try.ntmps27
      go_wp2_with fail
      refine (HCh.out _).mono ?_
      rintro e w1 ⟨rfl, hb1⟩
      replace hb1 := below_two ((Below.refl _ _).alloc (Nat.le_refl _) _) hb1
      go_wp2
      go_ret2
      exact ⟨⟨1, by decide, rfl⟩, hb1⟩
    · have HR := Lib.hid h
      have HCat := Lib.hid fun (b : Nat) (a1 : Option Addr) w' (hb0 : b < w'.heap.size) (k1 : w'.cell? ⟨b, 0, none⟩ = some (.slice a1 [s].length 1)) (k2 : w'.cell? ⟨b, 1, none⟩ = some (.slice a more.length c)) (h1 : RowL w' a1 1 [s]) (h2 : RowL w' a c more) => slices_ConcatL b a1 a 1 c [s] more w' hb0 k1 k2 h1 h2 (by simp) (by simp; omega)
      have HC := Lib.hid fun (a2 : Option Addr) (c2 : Nat) W (hr : RowL W a2 c2 (s :: more)) (b : Nat) (hbc : W.cell? ⟨b, 0, none⟩ = some (.int .i64 p)) =>
        contains_longs 52 #[.pointer (some ⟨b, 0, none⟩)] (enters_of Try.func52 (by kernel_rfl) rfl) (badB p) a2 c2 (s :: more) W hr (by simp; omega)
          (fun W' x hb' _ => split_c p x b W' ((hb'.cell (p := ⟨b, 0, none⟩) (World.block_lt_of_cell? W _ hbc)).trans hbc))
      simp only [List.length_cons, List.length_nil, eL, Nat.zero_add] at HCat HC
      have hany : (s :: more).any (badB p) = true ∨ n < 0 ∨ p ≤ n := by
        by_cases h1 : (s :: more).any (badB p) = true
        · exact .inl h1
        · by_cases h2 : n < 0
          · exact .inr (.inl h2)
          · by_cases h3 : p ≤ n
            · exact .inr (.inr h3)
            · exact absurd ⟨hpr, by omega, by simpa using h1, by omega, by omega⟩ hbad
      have hmf : ∀ (fn : Fn) (first cap : Array Value) (w : World), (Instr.makeFunc fn first cap).run Try.prog w = .ok (.func fn first cap) w := fun _ _ _ _ => rfl
      have HXL : Hid ((s :: more).length = L + 1) := Lib.hid (by rw [← eL]; rfl)
      have hL12 : L ≤ 12 := by omega
      obtain ⟨xs, hxs⟩ : ∃ xs, s :: more = xs := ⟨_, rfl⟩
      rw [hxs] at HC HXL hany
      simp only [List.cons_append, List.nil_append, hxs] at HCat
      obtain ⟨B, hB⟩ : ∃ B, xs.any (badB p) = B := ⟨_, rfl⟩
      rw [hB] at HC hany
      have p2 := hp.2.1
      have p1 := hp.1
      clear hbad hp hpr hlen eL h hxs hB
      have key : B = true ∨ (B = false ∧ n < 0) ∨ (B = false ∧ ¬ n < 0 ∧ p ≤ n) := by
        cases B with
        | true => exact .inl rfl
        | false =>
          by_cases h2 : n < 0
          · exact .inr (.inl ⟨rfl, h2⟩)
          · rcases hany with h | h | h
            · cases h
            · exact absurd h h2
            · exact .inr (.inr ⟨rfl, h2, h⟩)
      clear hany
      rcases key with rfl | ⟨rfl, hn⟩ | ⟨rfl, hn, hn2⟩
      all_goals
        go_enter Try.func27, Try.ntmps27
        go_wp2_with fail
        refine (HCh.out _).mono ?_
        rintro e w1 ⟨rfl, hb1⟩
        have z1 := hb1.size
        simp at z1
        have k0 := kept hb1 (b := w.heap.size) (o := 0) (v := .int .i64 p) (by simp [go_sem]) (by simp [go_sem])
        replace hb1 := below_two ((Below.refl _ _).alloc (Nat.le_refl _) _) hb1
        have HR1 := Lib.hid (HR.out.below hb1 (Nat.le_refl _))
        go_wp2_with fail
        refine (HCat.out (w1.heap.size + 1) (some ⟨w1.heap.size, 0, none⟩) _ (by simp) (by simp [go_sem]) (by simp [go_sem]) ((rowL_new w1 s).below (alloc_below _ _) (Nat.le_refl _)) ((HR1.out.below (alloc_below _ _) (Nat.le_refl _)).below (alloc_below _ _) (Nat.le_refl _))).mono ?_
        rintro e w3 ⟨v, rfl, hb3, hown⟩
        have hA := below_two (below_two (alloc_below w1 _) (alloc_below _ _)) hb3
        have k3 := kept hA k0 (by omega)
        have hbw := below_two hb1 hA
        have z3 := hA.size
        rw [show 1 + L = xs.length by rw [HXL.out]; omega] at hown
        obtain ⟨a3, c3, rfl, hr3⟩ := own_rowL hown
        rw [HXL.out]
        clear hown hA k0 hb1 hb3 HR1
        go_wp2_with fail
        refine (HC.out a3 c3 w3 hr3 w.heap.size k3).mono ?_
        rintro e w4 ⟨rfl, hb4⟩
        have k4 := kept hb4 k3 (by omega)
        have hbx := below_two hbw hb4
        clear hr3 k3 hbw z1 z3
        go_wp2
        go_ret2
        exact ⟨⟨2, by decide, rfl⟩, hbx⟩
  · obtain ⟨t, ht⟩ : ∃ t, primeE p = t := ⟨_, rfl⟩
    rw [ht] at HCh hpr
    have H0 := Lib.hid hpr
    have q1 : (t == 0) = false := by simpa using hpr
    have q2 : (t != 0) = true := by simpa using hpr
    clear hbad hpr ht eL h
    go_enter Try.func27, Try.ntmps27
    go_wp2_with fail
    refine (HCh.out _).mono ?_
    rintro e w1 ⟨rfl, hb1⟩
    replace hb1 := below_two ((Below.refl _ _).alloc (Nat.le_refl _) _) hb1
    go_wp2
    go_ret2
    exact ⟨⟨t, H0.out, rfl⟩, hb1⟩
end Go.Proofs.Ytfgmnlphejpcaaa
