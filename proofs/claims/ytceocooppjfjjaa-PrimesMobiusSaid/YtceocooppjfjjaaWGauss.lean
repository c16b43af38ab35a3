/- The walks of the statements PrimesGauss and PrimesMobius. -/
import Derived.Test.YtceocooppjfjjaaPrDiv
import Derived.Test.YtceocooppjfjjaaPrMob
import Derived.Test.YtceocooppjfjjaaPrPhi
import Derived.Test.YtceocooppjfjjaaRef
namespace Go.Proofs.Ytceocooppjfjjaa
open Go.RowKit
set_option linter.unusedVariables false
set_option linter.unusedSimpArgs false
theorem primes_Divisors_out (a : Int) (w : World) (h : a < 1 ∨ 1048576 < a) :
    Calls Try.prog 22 #[.int .i64 a] w fun e w' => e = .returned (.tuple #[.slice none 0 0, .int .i64 2]) ∧ w = w' := by
  have ho : primes_outB a = true := by simp [primes_outB]; omega
  clear h
  refine (callsIn_wide (n := 0)).1 ?_
  refine callsIn_of_wp_marks Try.func22 rfl trivial ?_ rfl
  simp only [Try.ntmps22, List.size_toArray, List.length_cons, List.length_nil, Nat.reduceAdd, Nat.reduceSub, Array.replicate_succ, Array.replicate_zero, List.push_toArray, List.append_toArray, List.nil_append, List.cons_append]
  gi_wp2
  refine ⟨trivial, rfl, (callsIn_wide.2 (primes_out _ _)).mono ?_⟩
  rintro e w' ⟨rfl, rfl⟩
  gi_wp2
  refine ⟨.tuple #[.slice none 0 0, .int .i64 2], ?_, rfl, rfl⟩
  simp [results, Try.f22, go_sem]
theorem sum_take_le {l : List Nat} {f : Nat → Nat} (I : Nat) : ((l.take I).map f).sum ≤ (l.map f).sum := by
  have : l.map f = (l.take I).map f ++ (l.drop I).map f := by rw [← List.map_append, List.take_append_drop]
  rw [this, List.sum_append]; omega
/-- the sorted divisors, and what is known of them -/
theorem div_facts {N : Nat} (h1 : 1 ≤ N) (h2 : N ≤ 1048576) {zs : List Int} (hp : zs.Perm ((M.dvs [1] (M.fac N)).map fun d : Nat => (d : Int))) :
    ∃ ds : List Nat, zs = ds.map (fun d : Nat => (d : Int)) ∧ (∀ d ∈ ds, 1 ≤ d ∧ d ≤ 1048576 ∧ d ∣ N) ∧ (ds.map M.phi).sum = N ∧ (ds.map M.mu).sum = (if N = 1 then 1 else 0) ∧ 1 ≤ ds.length ∧ ds.length ≤ 1048576 := by
  have hmem : ∀ z ∈ zs, 0 ≤ z := fun z hz => by
    obtain ⟨d, _, rfl⟩ := List.mem_map.1 (hp.mem_iff.1 hz); omega
  have e : zs = (zs.map Int.toNat).map (fun d : Nat => (d : Int)) := by
    rw [List.map_map]
    conv => lhs; rw [← List.map_id zs]
    exact List.map_congr_left fun z hz => by simp [Int.toNat_of_nonneg (hmem z hz)]
  have hq : (zs.map Int.toNat).Perm (M.dvs [1] (M.fac N)) := by
    have := hp.map Int.toNat
    rw [List.map_map] at this
    have e2 : (Int.toNat ∘ fun d : Nat => (d : Int)) = id := by funext d; simp
    rw [e2, List.map_id] at this
    exact this
  refine ⟨zs.map Int.toNat, e, fun d hd => ?_, ?_, ?_, ?_, ?_⟩
  · have h := M.dvs_of h1 d (hq.mem_iff.1 hd)
    have := Nat.le_of_dvd h1 h
    exact ⟨Nat.pos_of_dvd_of_pos h h1, by omega, h⟩
  · rw [(hq.map M.phi).sum_nat]; exact M.gauss h1
  · rw [← M.mobius h1]
    exact M.perm_sum_int (hq.map M.mu)
  · rw [hq.length_eq]; exact List.length_pos_of_mem (M.one_mem _)
  · rw [hq.length_eq]; have := M.dvs_len (M.fac_spec h1) [1]; simp at this; omega
theorem phi_parts {ds : List Nat} {N : Nat} (hs : (ds.map M.phi).sum = N) {I : Nat} (hI : I < ds.length) :
    ((ds.take (I + 1)).map M.phi).sum = ((ds.take I).map M.phi).sum + M.phi ds[I] ∧ ((ds.take (I + 1)).map M.phi).sum ≤ N := by
  refine ⟨?_, by rw [← hs]; exact sum_take_le _⟩
  rw [List.take_succ_eq_append_getElem hI, List.map_append, List.sum_append]; simp
theorem mu_parts {ds : List Nat} {I : Nat} (hI : I < ds.length) : ((ds.take (I + 1)).map M.mu).sum = ((ds.take I).map M.mu).sum + M.mu ds[I] := by
  rw [List.take_succ_eq_append_getElem hI, List.map_append, List.sum_append]; simp
theorem mu_bound (ds : List Nat) : - (ds.length : Int) ≤ (ds.map M.mu).sum ∧ (ds.map M.mu).sum ≤ ds.length := by
  induction ds with
  | nil => simp
  | cons d t ih =>
    have : -1 ≤ M.mu d ∧ M.mu d ≤ 1 := muf_small (M.fac d)
    simp only [List.map_cons, List.sum_cons, List.length_cons]
    omega
theorem row_cellI {W : World} {base g L cap : Nat} {zs : List Int} (h : W.ownsRow base 2 1 (.slice (some ⟨g, 0, none⟩) L cap) zs.length (zs.map (Value.int .i64))) {j : Nat} (hj : j < zs.length) :
    W.cell? ⟨g, j, none⟩ = some (.int .i64 zs[j]) := by
  have h1 := h.cells rfl j (.int .i64 zs[j]) (by simp [List.getElem?_eq_getElem hj])
  have e : (⟨g, 0, none⟩ : Addr).add j = ⟨g, j, none⟩ := by unfold Addr.add; split <;> simp_all
  rwa [e] at h1
theorem hw2_trans {w1 wr w' : World} (h : Below w1.heap.size w1 wr) (h2 : Below wr.heap.size wr w') : Below w1.heap.size w1 w' := h.trans (h2.mono h.size)
set_option maxHeartbeats 2000000 in
theorem WPrimesGauss (a0 : Int) (w : World) (w0 : (Lit.int .i64 a0).wf = true) :
    Calls Try.prog 6 #[.int .i64 a0] w fun e w' => e = .returned (.bool true) ∧ Below w.heap.size w w' := by
  have b0 := wf64 w0
  clear w0
  by_cases hm : modB a0 = true
  · obtain ⟨m1, m2⟩ := modB_true hm
    obtain ⟨N, rfl⟩ := Int.eq_ofNat_of_zero_le (show 0 ≤ a0 by omega)
    have h1 : 1 ≤ N := by omega
    have h2 : N ≤ 1048576 := by omega
    go_enter Try.func6, Try.ntmps6
    go_wp2_with fail
    refine (primes_Divisors_nat N _ h1 h2).mono ?_
    rintro e w1 ⟨v, zs, rfl, hb, hp, hr⟩
    obtain ⟨ds, rfl, hd, hs, _, l1, l2⟩ := div_facts h1 h2 hp
    obtain ⟨g, cap, rfl⟩ : ∃ g cap, v = .slice (some ⟨g, 0, none⟩) ds.length cap := by
      rcases hr.2 with ⟨_, e0⟩ | ⟨g, cap, cur, rfl, _⟩
      · rw [List.length_map] at e0; omega
      · exact ⟨g, cap, by simp⟩
    have hg := hr.lt g (by simp [Value.ownBlock])
    have HC : Hid (∀ j (h : j < ds.length), w1.cell? ⟨g, j, none⟩ = some (.int .i64 ((ds[j] : Nat) : Int))) := Lib.hid fun j h => by
      have := row_cellI hr (j := j) (by simpa using h); simpa using this
    have HD := Lib.hid hd
    have HS := Lib.hid hs
    have HB := Lib.hid hb
    clear hp hr hd hs hb
    go_wp2_with fail
    refine (keep_modulus _ _).mono ?_
    rintro e w' ⟨rfl, rfl⟩
    rw [hm]
    go_wp2
    go_loopw [5, 22] (fun s i wr => ∃ I : Nat, i = .int .i64 (I : Int) ∧ I ≤ ds.length ∧ s = .int .i64 ((((ds.take I).map M.phi).sum : Nat) : Int) ∧ Below w1.heap.size w1 wr) (fun _ i _ => ds.length - (intOf i).toNat)
    case atStart => exact ⟨0, rfl, Nat.zero_le _, by simp, Below.refl _ _⟩
    case round =>
      obtain ⟨I, rfl, hI, rfl, hw⟩ := hrel
      by_cases hIl : I < ds.length
      · have d1 : wr.cell? ⟨g, I, none⟩ = some (.int .i64 ((ds[I] : Nat) : Int)) := kept hw (HC.out I hIl) hg.2
        obtain ⟨x1, x2, x3⟩ := HD.out ds[I] (List.getElem_mem hIl)
        obtain ⟨p1, p2⟩ := phi_parts HS.out hIl
        have x4 := M.phi_pos x1
        have x5 : (N : Int) % (ds[I] : Int) = 0 := Int.emod_eq_zero_of_dvd (Int.natCast_dvd_natCast.2 x3)
        obtain ⟨d, hdd⟩ : ∃ d : Nat, d = ds[I] := ⟨_, rfl⟩
        obtain ⟨S, hS⟩ : ∃ S, S = ((ds.take I).map M.phi).sum := ⟨_, rfl⟩
        rw [p1] at p2
        rw [← hdd] at d1 x1 x2 x3 x4 x5 p1 p2
        rw [← hS] at p1 p2 ⊢
        have d1' : wr.cell? ⟨g, 0 + I, none⟩ = some (.int .i64 (d : Int)) := by rw [Nat.zero_add]; exact d1
        have HP := Lib.hid p1
        have HW := Lib.hid hw
        clear p1 hw hdd hS
        have hgw : g < wr.heap.size := Nat.lt_of_lt_of_le hg.2 HW.out.size
        obtain ⟨f, hf⟩ : ∃ f : Nat, f = M.phi d := ⟨_, rfl⟩
        have x6 : ((N : Int) % (d : Int) == 0) = true := by simp [x5]
        have x7 : ((N : Int) % (d : Int) != 0) = false := by simp [x5]
        have CP := Lib.hid (primes_Phi_nat d wr x1 x2)
        rw [← hf] at CP x4 p2
        have HF := Lib.hid hf
        clear hf x3 x5
        go_wp2_with fail
        refine CP.out.mono ?_
        rintro e w' ⟨rfl, hb2⟩
        have HW2 := Lib.hid (hw2_trans HW.out hb2)
        clear hb2 d1 d1'
        go_wp2
        go_roundw
        case rel => exact ⟨I + 1, by go_num, by omega, by rw [HP.out, ← HF.out]; go_num, HW2.out⟩
        case measure => simp [intOf]; omega
      · have e : I = ds.length := by omega
        subst e
        rw [List.take_length]
        rw [HS.out]
        have q : ((N : Int) == (N : Int)) = true := by simp
        have HB2 := Lib.hid (HB.out.trans (hw.mono (by exact HB.out.size)))
        clear hw
        go_wp2
        go_ret
        exact ⟨rfl, HB2.out⟩
  · have h0 : modB a0 = false := by simpa using hm
    have h' := modB_false h0
    go_enter Try.func6, Try.ntmps6
    go_wp2_with fail
    refine (primes_Divisors_out _ _ (by omega)).mono ?_
    rintro e w' ⟨rfl, rfl⟩
    go_wp2_with fail
    refine (keep_modulus _ _).mono ?_
    rintro e w' ⟨rfl, rfl⟩
    rw [h0]
    go_wp2
    go_ret
    exact ⟨rfl, Below.refl _ _⟩
end Go.Proofs.Ytceocooppjfjjaa
