/- The walk of the statement PrimesMobius. -/
import Derived.Test.YtceocooppjfjjaaWGauss
namespace Go.Proofs.Ytceocooppjfjjaa
open Go.RowKit
set_option linter.unusedVariables false
set_option linter.unusedSimpArgs false
set_option maxHeartbeats 2000000 in
theorem WPrimesMobius (a0 : Int) (w : World) (w0 : (Lit.int .i64 a0).wf = true) :
    Calls Try.prog 7 #[.int .i64 a0] w fun e w' => e = .returned (.bool true) ∧ Below w.heap.size w w' := by
  have b0 := wf64 w0
  clear w0
  by_cases hm : modB a0 = true
  · obtain ⟨m1, m2⟩ := modB_true hm
    obtain ⟨N, rfl⟩ := Int.eq_ofNat_of_zero_le (show 0 ≤ a0 by omega)
    have h1 : 1 ≤ N := by omega
    have h2 : N ≤ 1048576 := by omega
    go_enter Try.func7, Try.ntmps7
    go_wp2_with fail
    refine (primes_Divisors_nat N _ h1 h2).mono ?_
    rintro e w1 ⟨v, zs, rfl, hb, hp, hr⟩
    obtain ⟨ds, rfl, hd, _, hs, l1, l2⟩ := div_facts h1 h2 hp
    obtain ⟨g, cap, rfl⟩ : ∃ g cap, v = .slice (some ⟨g, 0, none⟩) ds.length cap := by
      rcases hr.2 with ⟨_, e0⟩ | ⟨g, cap, cur, rfl, _⟩
      · rw [List.length_map] at e0; omega
      · exact ⟨g, cap, by simp⟩
    have hg := hr.lt g (by simp [Value.ownBlock])
    have HC : Hid (∀ j (h : j < ds.length), w1.cell? ⟨g, j, none⟩ = some (.int .i64 ((ds[j] : Nat) : Int))) := Lib.hid fun j h => by
      have := row_cellI hr (j := j) (by simpa using h); simpa using this
    have HD := Lib.hid hd
    have HS := Lib.hid hs
    have HB := Lib.hid hb
    clear hp hr hd hs hb
    go_wp2_with fail
    refine (keep_modulus _ _).mono ?_
    rintro e w' ⟨rfl, rfl⟩
    rw [hm]
    go_wp2
    go_loopw [5, 22] (fun s i wr => ∃ I : Nat, i = .int .i64 (I : Int) ∧ I ≤ ds.length ∧ s = .int .i64 (((ds.take I).map M.mu).sum) ∧ Below w1.heap.size w1 wr) (fun _ i _ => ds.length - (intOf i).toNat)
    case atStart => exact ⟨0, rfl, Nat.zero_le _, by simp, Below.refl _ _⟩
    case round =>
      obtain ⟨I, rfl, hI, rfl, hw⟩ := hrel
      by_cases hIl : I < ds.length
      · have d1 : wr.cell? ⟨g, I, none⟩ = some (.int .i64 ((ds[I] : Nat) : Int)) := kept hw (HC.out I hIl) hg.2
        obtain ⟨x1, x2, x3⟩ := HD.out ds[I] (List.getElem_mem hIl)
        have p1 := mu_parts hIl
        have p2 := mu_bound (ds.take I)
        have p3 := mu_bound (ds.take (I + 1))
        simp only [List.length_take] at p2 p3
        rw [p1] at p3
        obtain ⟨d, hdd⟩ : ∃ d : Nat, d = ds[I] := ⟨_, rfl⟩
        obtain ⟨S, hS⟩ : ∃ S, S = ((ds.take I).map M.mu).sum := ⟨_, rfl⟩
        rw [← hdd] at d1 x1 x2 p1 p3
        rw [← hS] at p1 p2 p3 ⊢
        have d1' : wr.cell? ⟨g, 0 + I, none⟩ = some (.int .i64 (d : Int)) := by rw [Nat.zero_add]; exact d1
        have HP := Lib.hid p1
        have HW := Lib.hid hw
        clear p1 hw hdd hS
        have hgw : g < wr.heap.size := Nat.lt_of_lt_of_le hg.2 HW.out.size
        obtain ⟨f, hf⟩ : ∃ f : Int, f = M.mu d := ⟨_, rfl⟩
        have CP := Lib.hid (primes_Mobius_nat d wr x1 x2)
        rw [← hf] at CP p3
        have HF := Lib.hid hf
        clear hf x3
        have p4 : -1048576 ≤ S + f ∧ S + f ≤ 1048576 := by omega
        have p5 : -1048576 ≤ S ∧ S ≤ 1048576 := by omega
        clear p2 p3
        go_wp2_with fail
        refine CP.out.mono ?_
        rintro e w' ⟨rfl, hb2⟩
        have HW2 := Lib.hid (hw2_trans HW.out hb2)
        clear hb2 d1 d1'
        go_wp2
        go_roundw
        case rel => exact ⟨I + 1, by go_num, by omega, by rw [HP.out, ← HF.out], HW2.out⟩
        case measure => simp [intOf]; omega
      · have e : I = ds.length := by omega
        subst e
        rw [List.take_length]
        rw [HS.out]
        have HB2 := Lib.hid (HB.out.trans (hw.mono (by exact HB.out.size)))
        have l3 : (0 : Int) < (ds.length : Int) := by omega
        clear hw
        by_cases hn : N = 1
        · subst hn
          rw [if_pos rfl]
          go_wp2
          go_ret
          exact ⟨rfl, HB2.out⟩
        · rw [if_neg hn]
          have q1 : ((N : Int) == 1) = false := by simp; omega
          have q2 : ((N : Int) != 1) = true := by simp; omega
          go_wp2
          go_ret
          exact ⟨rfl, HB2.out⟩
  · have h0 : modB a0 = false := by simpa using hm
    have h' := modB_false h0
    go_enter Try.func7, Try.ntmps7
    go_wp2_with fail
    refine (primes_Divisors_out _ _ (by omega)).mono ?_
    rintro e w' ⟨rfl, rfl⟩
    go_wp2_with fail
    refine (keep_modulus _ _).mono ?_
    rintro e w' ⟨rfl, rfl⟩
    rw [h0]
    go_wp2
    go_ret
    exact ⟨rfl, Below.refl _ _⟩
end Go.Proofs.Ytceocooppjfjjaa
