/- The contract of talk.Extract. -/
import Derived.Test.YtgmkmlfppblpfaaTk5
import Derived.Deep.RegionHeld3
namespace Go.Proofs.Ytgmkmlfppblpfaa
open Go.RowKit
set_option linter.unusedVariables false
set_option linter.unusedSimpArgs false
theorem ext_mod {P Q G H s f q v q' v' : Int} (hg : grpE P Q G H = 0) (hs : 0 ≤ s ∧ s < Q) (hq : 0 ≤ q) (hv : 0 ≤ v) (hq' : 0 ≤ q') (hv' : 0 ≤ v')
    (h1 : rightB P G (pw G s P) f q v = true) (h2 : rightB P G (pw G s P) f q' v' = true) : Q ∣ (v - v') - s * (q - q') := by
  have ⟨⟨g1, g2, g3, g4, g5, _⟩, hp, hqp, _, hG, _⟩ := grpE_zero hg
  have e1 : pw G v P = f * pw (pw G s P) q P % P := by simpa [rightB] using h1
  have e2 : pw G v' P = f * pw (pw G s P) q' P % P := by simpa [rightB] using h2
  have m1 := Int.mul_nonneg hs.1 hq
  have m2 := Int.mul_nonneg hs.1 hq'
  have t2 : ∀ a b : Int, a % P * b % P = a * b % P := fun u v => by rw [Int.mul_emod, Int.emod_emod, ← Int.mul_emod]
  have k : pw G (v + s * q') P = pw G (v' + s * q) P := by
    rw [← pw_add G P hv m2, ← pw_add G P hv' m1, ← pw_pw G P hs.1 hq', ← pw_pw G P hs.1 hq, e1, e2, t2, t2, Int.mul_assoc, Int.mul_assoc, Int.mul_comm (pw (pw G s P) q P)]
  rw [← pw_mod (by omega) (by omega) hG (show 0 ≤ v + s * q' by omega), ← pw_mod (by omega) (by omega) hG (show 0 ≤ v' + s * q by omega)] at k
  have i := pw_inj hp hqp (by omega) g3 hG g5 (Int.emod_nonneg _ (by omega)) (Int.emod_lt_of_pos _ (by omega)) (Int.emod_nonneg _ (by omega)) (Int.emod_lt_of_pos _ (by omega)) k
  have d := Int.dvd_of_emod_eq_zero (Int.emod_eq_emod_iff_emod_sub_eq_zero.1 i)
  have : v + s * q' - (v' + s * q) = (v - v') - s * (q - q') := by rw [Int.mul_sub]; omega
  rwa [this] at d
theorem ext_fin {Q s a b j : Int} (hs : 0 ≤ s ∧ s < Q) (h : Q ∣ a - s * b) (hj : b % Q * j % Q = 1) : a % Q * j % Q = s := by
  have t2 : ∀ a b : Int, a % Q * b % Q = a * b % Q := fun u v => by rw [Int.mul_emod, Int.emod_emod, ← Int.mul_emod]
  have e : a % Q = s * b % Q := Int.emod_eq_emod_iff_emod_sub_eq_zero.2 (Int.emod_eq_zero_of_dvd h)
  rw [e, t2, Int.mul_assoc, Int.mul_emod, ← t2 b j, hj, Int.mul_one, Int.emod_emod, Int.emod_eq_of_lt hs.1 hs.2]
theorem said_two {P Q y : Int} {x z : Int × Int × Int} : saidB P Q y [x, z] = (saidB P Q y [x] && saidB P Q y [z]) := by
  simp only [saidB, List.all_cons, List.all_nil, Bool.and_true]
  cases powsB Q [x.2.1, x.2.2] <;> cases powsB Q [z.2.1, z.2.2] <;> cases memB P Q y <;> cases memB P Q x.1 <;> cases memB P Q z.1 <;> rfl
set_option maxRecDepth 20000 in
set_option maxHeartbeats 3200000 in
theorem talk_Extract (P Q G H s f q v q' v' : Int) (w : World) (hg : grpE P Q G H = 0) (hs : 0 ≤ s ∧ s < Q) (h1 : saidB P Q (pw G s P) [(f, q, v)] = true) (h2 : saidB P Q (pw G s P) [(f, q', v')] = true)
    (h3 : rightB P G (pw G s P) f q v = true) (h4 : rightB P G (pw G s P) f q' v' = true) (hne : ¬ q = q') :
    Calls Try.prog 28 #[.agg #[.int .i64 P, .int .i64 Q, .int .i64 G, .int .i64 H], .int .i64 (pw G s P), .agg #[.int .i64 f, .int .i64 q, .int .i64 v], .agg #[.int .i64 f, .int .i64 q', .int .i64 v']] w fun e w' => e = .returned (.tuple #[.int .i64 s, .int .i64 0]) ∧ Below w.heap.size w w' := by
  have HG := Lib.hid hg
  have HT : Hid (saidB P Q (pw G s P) [(f, q, v), (f, q', v')] = true) := Lib.hid (by rw [said_two, h1, h2]; rfl)
  obtain ⟨⟨⟨q1, q2⟩, v1, v2⟩, hy, hf⟩ := said_one.1 h1
  obtain ⟨⟨⟨q1', q2'⟩, v1', v2'⟩, _, _⟩ := said_one.1 h2
  obtain ⟨f1, f2, _⟩ := memB_iff.1 hf
  have ⟨⟨g1, g2, g3, g4, g5, _⟩, hp, hqp, _, hG, _⟩ := grpE_zero hg
  have HM := Lib.hid (ext_mod hg hs q1 v1 q1' v1' h3 h4)
  have HS := Lib.hid hs
  have n1 : (q == q') = false := by simpa using hne
  have b1 := Int.emod_nonneg (q - q') (show Q ≠ 0 by omega)
  have b2 := Int.emod_lt_of_pos (q - q') (show 0 < Q by omega)
  have a1 := Int.emod_nonneg (v - v') (show Q ≠ 0 by omega)
  have a2 := Int.emod_lt_of_pos (v - v') (show 0 < Q by omega)
  have hb0 : ¬ (q - q') % Q = 0 := fun h => by
    obtain ⟨c, hc⟩ := Int.dvd_of_emod_eq_zero h
    have : -Q < Q * c ∧ Q * c < Q := by omega
    rcases Int.lt_trichotomy c 0 with h | h | h
    · have := Int.mul_le_mul_of_nonneg_left (show c ≤ -1 by omega) (show 0 ≤ Q by omega); omega
    · subst h; omega
    · have := Int.mul_le_mul_of_nonneg_left (show 1 ≤ c by omega) (show 0 ≤ Q by omega); omega
  have hgc : Int.gcd ((q - q') % Q) Q = 1 := by
    obtain ⟨e, hQ⟩ := prB_int hqp g3
    rw [Int.gcd_comm, ← e]
    exact hQ.gcd_int fun hd => by
      rw [e] at hd
      have := Int.le_of_dvd (by omega) hd
      omega
  have HI := Lib.hid fun w => inv_call ((q - q') % Q) Q w b1 (by omega) (by omega) (by omega) hgc
  obtain ⟨X, hX⟩ : ∃ X, pw G s P = X := ⟨_, rfl⟩
  rw [hX] at h3 h4 HT ⊢
  have HR1 := Lib.hid (fun w => talk_right P Q G H X f q v w (by omega) g2 ⟨by omega, f2⟩ ⟨q1, by omega⟩ ⟨v1, by omega⟩)
  have HR2 := Lib.hid (fun w => talk_right P Q G H X f q' v' w (by omega) g2 ⟨by omega, f2⟩ ⟨q1', by omega⟩ ⟨v1', by omega⟩)
  have H3 := Lib.hid h3
  have H4 := Lib.hid h4
  have w1' : IntKind.i64.wrap (q - q') = q - q' := IntWalk.i64_in _ (by omega)
  have w2' : IntKind.i64.wrap (v - v') = v - v' := IntWalk.i64_in _ (by omega)
  have f3 : (Q == 0) = false := by simp; omega
  have f4 : ¬ Q = 0 := by omega
  have ff : (f != f) = false := by simp
  clear hg hs h1 h2 h3 h4 hf hy hp hqp hG hb0 hgc hX hne
  go_enter Try.func28, Try.ntmps28
  go_wp2_with fail
  refine (talk_said P Q G H X _ 2 [(f, q, v), (f, q', v')] _ ?r1 (by simp) HG.out).mono ?_
  case r1 => exact RowT.two (by simp [go_sem]) (by simp [go_sem]) (by simp [go_sem]) (by simp [go_sem]) (by simp [go_sem]) (by simp [go_sem]) (by simp [go_sem] <;> omega)
  rintro e w1 ⟨⟨hs, rfl⟩ | ⟨hs, t, ht, rfl⟩, hb1⟩
  · clear hs
    have z1 := hb1.size
    simp at z1
    have k0 := kept hb1 (b := w.heap.size) (o := 0) (v := .int .i64 P) (by simp [go_sem]) (by simp [go_sem] <;> omega)
    have k1 := kept hb1 (b := w.heap.size) (o := 1) (v := .int .i64 Q) (by simp [go_sem]) (by simp [go_sem] <;> omega)
    have k2 := kept hb1 (b := w.heap.size) (o := 2) (v := .int .i64 G) (by simp [go_sem]) (by simp [go_sem] <;> omega)
    have k3 := kept hb1 (b := w.heap.size) (o := 3) (v := .int .i64 H) (by simp [go_sem]) (by simp [go_sem] <;> omega)
    have c0 := kept hb1 (b := w.heap.size + 1) (o := 0) (v := .int .i64 f) (by simp [go_sem]) (by simp [go_sem] <;> omega)
    have c1 := kept hb1 (b := w.heap.size + 1) (o := 1) (v := .int .i64 q) (by simp [go_sem]) (by simp [go_sem] <;> omega)
    have c2 := kept hb1 (b := w.heap.size + 1) (o := 2) (v := .int .i64 v) (by simp [go_sem]) (by simp [go_sem] <;> omega)
    have d0 := kept hb1 (b := w.heap.size + 1 + 1) (o := 0) (v := .int .i64 f) (by simp [go_sem]) (by simp [go_sem] <;> omega)
    have d1 := kept hb1 (b := w.heap.size + 1 + 1) (o := 1) (v := .int .i64 q') (by simp [go_sem]) (by simp [go_sem] <;> omega)
    have d2 := kept hb1 (b := w.heap.size + 1 + 1) (o := 2) (v := .int .i64 v') (by simp [go_sem]) (by simp [go_sem] <;> omega)
    have hbw : Below w.heap.size w w1 := below_two ((((Below.refl _ _).alloc (Nat.le_refl _) _).alloc (by simp) _).alloc (by simp <;> omega) _ |>.alloc (by simp <;> omega) _) hb1
    clear hb1
    go_wp2_with fail
    refine (HR1.out _).mono ?_
    rintro e w2 ⟨rfl, hb2⟩
    rw [H3.out]
    have z2 := hb2.size
    replace k0 := kept hb2 k0 (by omega)
    replace k1 := kept hb2 k1 (by omega)
    replace k2 := kept hb2 k2 (by omega)
    replace k3 := kept hb2 k3 (by omega)
    replace c0 := kept hb2 c0 (by omega)
    replace c1 := kept hb2 c1 (by omega)
    replace c2 := kept hb2 c2 (by omega)
    replace d0 := kept hb2 d0 (by omega)
    replace d1 := kept hb2 d1 (by omega)
    replace d2 := kept hb2 d2 (by omega)
    go_wp2_with fail
    refine (HR2.out _).mono ?_
    rintro e w3 ⟨rfl, hb3⟩
    rw [H4.out]
    have z3 := hb3.size
    replace k0 := kept hb3 k0 (by omega)
    replace k1 := kept hb3 k1 (by omega)
    replace k2 := kept hb3 k2 (by omega)
    replace k3 := kept hb3 k3 (by omega)
    replace c0 := kept hb3 c0 (by omega)
    replace c1 := kept hb3 c1 (by omega)
    replace c2 := kept hb3 c2 (by omega)
    replace d0 := kept hb3 d0 (by omega)
    replace d1 := kept hb3 d1 (by omega)
    replace d2 := kept hb3 d2 (by omega)
    replace hbw := below_two (below_two hbw hb2) hb3
    clear hb2 hb3
    go_wp2_with fail
    go_region_held3 (fun w' => w'.cell? ⟨w.heap.size, 1, none⟩ = some (.int .i64 Q) ∧ w'.cell? ⟨w.heap.size + 1, 1, none⟩ = some (.int .i64 q) ∧ w'.cell? ⟨w.heap.size + 1 + 1, 1, none⟩ = some (.int .i64 q'))
      (first | go_keep | exact ⟨kept hb4 (by simpa using k1) (by simp; omega), kept hb4 (by simpa using c1) (by simp; omega), kept hb4 (by simpa using d1) (by simp; omega)⟩)
      (first | (go_at_call 46; refine (euclid_Mod (q - q') Q _ (by omega) (by omega)).mono ?_; rintro e w' ⟨rfl, rfl⟩) | (go_at_call 45; refine (HI.out _).mono ?_; rintro e w4 ⟨⟨i, rfl, i1, i2, i3⟩, hb4⟩))
    have z4 : w3.heap.size ≤ w4.heap.size := hb4.size
    replace k1 := kept hb4 (by simpa using k1) (show w.heap.size < w3.heap.size by omega)
    replace c2 := kept hb4 (by simpa using c2) (show w.heap.size + 1 < w3.heap.size by omega)
    replace d2 := kept hb4 (by simpa using d2) (show w.heap.size + 1 + 1 < w3.heap.size by omega)
    replace hbw := below_two hbw.drew hb4
    have q0 := mul_lim a1 (by omega) i1 (by omega)
    have x1 : IntKind.i64.wrap ((v - v') % Q * i) = (v - v') % Q * i := IntWalk.i64_in _ (by omega)
    have x2 : Int.tmod ((v - v') % Q * i) Q = (v - v') % Q * i % Q := Int.tmod_eq_emod_of_nonneg q0.1
    have HF : Hid ((v - v') % Q * i % Q = s) := Lib.hid (ext_fin HS.out HM.out (by
      have h2 := Int.emod_eq_emod_iff_emod_sub_eq_zero.2 (Int.emod_eq_zero_of_dvd i3)
      rw [Int.mul_comm, h2, Int.emod_eq_of_lt (by omega) (by omega)]))
    clear i3 hb4 c0 c1 d0 d1
    go_wp2_with fail
    refine wp_region_still_tail 13 (by kernel_rfl) (by kernel_rfl) ?_
    simp only [List.take_succ_cons, List.take_zero, List.drop_succ_cons, List.drop_zero]
    iterate 7 still_step
    still_call (still_of (euclid_Mod (v - v') Q _ (by omega) (by omega)))
    iterate 5 still_step
    refine wpStill_nil ?_
    change wpList _ _ _ _ _ w4.drew
    go_wp2
    go_ret2
    exact ⟨by rw [← HF.out]; rfl, hbw.drew⟩
  · exact absurd (HT.out.symm.trans hs) (by simp)
end Go.Proofs.Ytgmkmlfppblpfaa
