/- Contracts of package euclid: what each of its functions computes, for arguments within the limits. -/
import Derived.Test.YtceocooppjfjjaaBase
import Derived.Test.YtceocooppjfjjaaEuM
namespace Go.Proofs.Ytceocooppjfjjaa
open Go.RowKit
set_option linter.unusedVariables false
set_option linter.unusedSimpArgs false

theorem tmod_bd (a m : Int) (h : 1 ≤ m) : -m < a.tmod m ∧ a.tmod m < m := by
  have h1 := Int.tmod_lt_of_pos a (show 0 < m by omega)
  have h2 := Int.tmod_lt_of_pos (-a) (show 0 < m by omega)
  rw [Int.neg_tmod] at h2; omega
theorem tmod_fix (a m : Int) (h : 1 ≤ m) : (a.tmod m + m) % m = a % m := by
  rw [Int.add_emod_right]
  have := Int.mul_tdiv_add_tmod a m
  conv => rhs; rw [← this]
  rw [Int.add_comm, Int.add_mul_emod_self_left]

set_option maxHeartbeats 400000 in
theorem euclid_Mod (a m : Int) (w : World) (h1 : 1 ≤ m) (h2 : m ≤ 2147483648) :
    Calls Try.prog 43 #[.int .i64 a, .int .i64 m] w fun e w' => e = .returned (.int .i64 (a % m)) ∧ w = w' := by
  have t := tmod_bd a m h1
  go_enter Try.func43, Try.ntmps43
  go_wp2
  go_ret
  exact ⟨ret_int (tmod_fix a m h1), rfl⟩

set_option maxHeartbeats 400000 in
theorem euclid_abs (x : Int) (w : World) (h1 : -4611686018427387904 ≤ x) (h2 : x ≤ 4611686018427387904) :
    Calls Try.prog 63 #[.int .i64 x] w fun e w' => e = .returned (.int .i64 x.natAbs) ∧ w = w' := by
  go_enter Try.func63, Try.ntmps63
  go_wp2
  all_goals
    go_ret
    exact ⟨ret_int (by omega), rfl⟩
/-- out of the limits -/
def farB (x : Int) : Bool := decide (x < -2147483648) || decide (2147483648 < x)
theorem farB_false {x : Int} (h : farB x = false) : -2147483648 ≤ x ∧ x ≤ 2147483648 := by
  unfold farB at h; simp at h; omega
theorem farB_true {x : Int} (h : farB x = true) : x < -2147483648 ∨ 2147483648 < x := by
  unfold farB at h; simpa using h
theorem farB_no {x : Int} (h1 : -2147483648 ≤ x) (h2 : x ≤ 2147483648) : farB x = false := by
  unfold farB; simp; omega
theorem any_take_succ (zs : List Int) (k : Nat) (h : k < zs.length) : (zs.take (k + 1)).any farB = ((zs.take k).any farB || farB (zs[k]?.getD 0)) := by
  rw [List.take_succ_eq_append_getElem h, List.any_append]; simp [h]
theorem any_of_take (zs : List Int) (k : Nat) (h : (zs.take k).any farB = true) : zs.any farB = true := by
  rw [List.any_eq_true] at *; obtain ⟨x, hx, h⟩ := h; exact ⟨x, List.mem_of_mem_take hx, h⟩
set_option maxHeartbeats 400000 in
theorem euclid_far (zs : List Int) (b : Nat) (w : World) (hz : zs.length ≤ 4) (hc : ∀ k, k < zs.length → w.cell? ⟨b, k, none⟩ = some (.int .i64 (zs[k]?.getD 0))) :
    Calls Try.prog 61 #[.slice (some ⟨b, 0, none⟩) zs.length zs.length] w fun e w' => e = .returned (.bool (zs.any farB)) ∧ w = w' := by
  have HC := Lib.hid hc
  clear hc
  go_enter Try.func61, Try.ntmps61
  go_wp2
  go_loop [7] (fun i => ∃ k : Nat, k ≤ zs.length ∧ i = .int .i64 k ∧ (zs.take k).any farB = false) (fun i => zs.length - (intOf i).toNat)
  case atStart => exact ⟨0, Nat.zero_le _, rfl, by simp⟩
  case round =>
    obtain ⟨k, hk, rfl, ha⟩ := hrel
    have HA := Lib.hid ha
    clear ha
    by_cases hlt : k < zs.length
    · obtain ⟨z, hz⟩ : ∃ z, z = zs[k]?.getD 0 := ⟨_, rfl⟩
      have hcell := HC.out k hlt
      have ht := any_take_succ zs k hlt
      rw [← hz] at hcell ht
      rw [HA.out, Bool.false_or] at ht
      have HT := Lib.hid ht
      clear ht hz
      by_cases hb : farB z = true
      · have hq := any_of_take zs (k + 1) (HT.out.trans hb)
        have hb' := farB_true hb
        clear hb
        rcases hb' with hb' | hb'
        all_goals
          go_wp2
          go_ret
          exact ⟨rfl, rfl⟩
      · have hb' := farB_false (by simpa using hb : farB z = false)
        have HB := Lib.hid hb
        clear hb
        obtain ⟨hb1, hb2⟩ := hb'
        go_wp2
        go_round
        case rel => exact ⟨k + 1, by omega, by go_num, by rw [HT.out]; simpa using HB.out⟩
        case measure => simp [intOf]; omega
    · go_wp2
      go_ret
      refine ⟨?_, rfl⟩
      have : zs.any farB = false := by have := HA.out; rwa [List.take_of_length_le (by omega)] at this
      simp [this]

def StepPost (a0 b0 : Int) (w : World) (e : Ending) (w' : World) : Prop := ∃ g x y : Int, e = .returned (.tuple #[.int .i64 g, .int .i64 x]) ∧ g.natAbs = Int.gcd a0 b0 ∧ x * a0 + y * b0 = g ∧ g.natAbs ≤ 2147483648 ∧ x.natAbs ≤ 2147483648 ∧ (0 ≤ a0 → 0 ≤ b0 → 0 ≤ g) ∧ w = w'
set_option maxHeartbeats 400000 in
theorem euclid_step (a0 b0 : Int) (w : World) (h1 : -2147483648 ≤ a0) (h2 : a0 ≤ 2147483648) (h3 : -2147483648 ≤ b0) (h4 : b0 ≤ 2147483648) :
    Calls Try.prog 62 #[.int .i64 a0, .int .i64 b0] w (StepPost a0 b0 w) := by
  go_enter Try.func62, Try.ntmps62
  go_wp2
  go_loop [0, 1, 6, 7] (fun a b x n => ∃ A B X N : Int, a = .int .i64 A ∧ b = .int .i64 B ∧ x = .int .i64 X ∧ n = .int .i64 N ∧ M.StepRel a0 b0 A B X N) (fun _ b _ _ => (intOf b).natAbs)
  case atStart => exact ⟨a0, b0, 1, 0, rfl, rfl, rfl, rfl, M.StepRel.init h1 h2 h3 h4⟩
  case round =>
    obtain ⟨A, B, X, N, rfl, rfl, rfl, rfl, hr⟩ := hrel
    have b1 := hr.a1
    have b2 := hr.b1
    have b3 := hr.x1
    have b4 := hr.n1
    by_cases hB : B = 0
    · subst hB
      obtain ⟨y, hy⟩ := hr.lin
      have HG := Lib.hid hr.gcd
      have HY := Lib.hid hy
      clear hy
      go_wp2
      go_ret2
      exact ⟨A, X, y, rfl, by rw [← HG.out]; simp, HY.out, b1, b3, fun u v => (hr.pos u v).1, rfl⟩
    · have hs := hr.step hB
      obtain ⟨q, hq⟩ : ∃ q, A.tdiv B = q := ⟨_, rfl⟩
      rw [hq] at hs
      obtain ⟨hr2, q1, q2, q3, q4⟩ := hs
      have c1 := hr2.b1
      have c2 := hr2.n1
      go_wp2
      go_round
      case rel => exact ⟨B, A - q * B, N, X - q * N, rfl, rfl, rfl, rfl, hr2⟩
      case measure => simp [intOf]; omega
set_option maxHeartbeats 400000 in
theorem euclid_Gcd (a b : Int) (w : World) (h1 : -2147483648 ≤ a) (h2 : a ≤ 2147483648) (h3 : -2147483648 ≤ b) (h4 : b ≤ 2147483648) :
    Calls Try.prog 38 #[.int .i64 a, .int .i64 b] w fun e w' => e = .returned (.tuple #[.int .i64 (Int.gcd a b), .int .i64 0]) ∧ Below w.heap.size w w' := by
  have hf : [a, b].any farB = false := by simp [farB_no h1 h2, farB_no h3 h4]
  go_enter Try.func38, Try.ntmps38
  go_wp2_with fail
  refine (euclid_far [a, b] _ _ (by simp) ?_).mono ?_
  · intro k hk
    match k, hk with
    | 0, _ => simp
    | 1, _ => simp
  rintro e w' ⟨rfl, rfl⟩
  go_wp2_with fail
  refine (euclid_step _ _ _ h1 h2 h3 h4).mono ?_
  rintro e w' ⟨g, x, y, rfl, hg, hy, b1, b2, _, rfl⟩
  have HY := Lib.hid hy
  have HG := Lib.hid hg
  clear hy hg
  go_wp2_with fail
  refine (euclid_abs _ _ (by omega) (by omega)).mono ?_
  rintro e w' ⟨rfl, rfl⟩
  go_wp2
  go_ret2
  exact ⟨by rw [HG.out]; rfl, (Below.refl _ _).alloc (Nat.le_refl _) _⟩
theorem euclid_Gcd_far (a b : Int) (w : World) (h : farB a = true ∨ farB b = true) :
    Calls Try.prog 38 #[.int .i64 a, .int .i64 b] w fun e w' => e = .returned (.tuple #[.int .i64 0, .int .i64 2]) ∧ Below w.heap.size w w' := by
  have hf : [a, b].any farB = true := by rcases h with h | h <;> simp [h]
  clear h
  go_enter Try.func38, Try.ntmps38
  go_wp2_with fail
  refine (euclid_far [a, b] _ _ (by simp) ?_).mono ?_
  · intro k hk
    match k, hk with
    | 0, _ => simp
    | 1, _ => simp
  rintro e w' ⟨rfl, rfl⟩
  go_wp2
  go_ret2
  exact ⟨rfl, (Below.refl _ _).alloc (Nat.le_refl _) _⟩
def inB (a b : Int) : Prop := -2147483648 ≤ a ∧ a ≤ 2147483648 ∧ -2147483648 ≤ b ∧ b ≤ 2147483648
set_option maxHeartbeats 400000 in
theorem euclid_Lcm (a b : Int) (w : World) (h1 : -2147483648 ≤ a) (h2 : a ≤ 2147483648) (h3 : -2147483648 ≤ b) (h4 : b ≤ 2147483648) :
    Calls Try.prog 57 #[.int .i64 a, .int .i64 b] w fun e w' => e = .returned (.tuple #[.int .i64 (Int.lcm a b), .int .i64 0]) ∧ Below w.heap.size w w' := by
  have hl := M.lcm_facts h1 h2 h3 h4
  by_cases hg : Int.gcd a b = 0
  · have hl0 : Int.lcm a b = 0 := by
      have := Int.gcd_eq_zero_iff.1 hg
      simp [this.1, this.2]
    have HL := Lib.hid hl0
    have HG := Lib.hid hg
    clear hl0 hl
    go_enter Try.func57, Try.ntmps57
    go_wp2_with fail
    refine (euclid_Gcd _ _ _ h1 h2 h3 h4).mono ?_
    rintro e w1 ⟨rfl, hb⟩
    go_wp2
    go_ret2
    exact ⟨by rw [HL.out]; rfl, hb⟩
  · have HL := Lib.hid (M.lcm_eq hg)
    have hgp : 0 < Int.gcd a b := by omega
    obtain ⟨g, hgg⟩ : ∃ g : Nat, Int.gcd a b = g := ⟨_, rfl⟩
    rw [hgg] at hgp hl HL
    have HG := Lib.hid hgg
    clear hgg hg
    obtain ⟨l1, l2⟩ := hl
    go_enter Try.func57, Try.ntmps57
    go_wp2_with fail
    refine (euclid_Gcd _ _ _ h1 h2 h3 h4).mono ?_
    rintro e w1 ⟨rfl, hb⟩
    rw [HG.out]
    go_wp2_with fail
    refine (euclid_abs _ _ (by omega) (by omega)).mono ?_
    rintro e w2 ⟨rfl, rfl⟩
    go_wp2
    go_ret2
    exact ⟨by rw [← HL.out]; rfl, hb⟩
theorem euclid_Lcm_far (a b : Int) (w : World) (h : farB a = true ∨ farB b = true) :
    Calls Try.prog 57 #[.int .i64 a, .int .i64 b] w fun e w' => e = .returned (.tuple #[.int .i64 0, .int .i64 2]) ∧ Below w.heap.size w w' := by
  have H := Lib.hid h
  clear h
  go_enter Try.func57, Try.ntmps57
  go_wp2_with fail
  refine (euclid_Gcd_far _ _ _ H.out).mono ?_
  rintro e w1 ⟨rfl, hb⟩
  go_wp2
  go_ret2
  exact ⟨rfl, hb⟩
def BezPost (a b : Int) (w : World) (e : Ending) (w' : World) : Prop := ∃ x y : Int, e = .returned (.tuple #[.int .i64 (Int.gcd a b), .int .i64 x, .int .i64 y, .int .i64 0]) ∧ x * a + y * b = Int.gcd a b ∧ (b ≠ 0 → 0 ≤ x ∧ x ≤ 2147483648) ∧ x.natAbs ≤ 2147483648 ∧ Below w.heap.size w w'
theorem prod_bd {x a : Int} (h1 : 0 ≤ x) (h2 : x ≤ 2147483648) (h3 : -2147483648 ≤ a) (h4 : a ≤ 2147483648) : -4611686018427387904 ≤ x * a ∧ x * a ≤ 4611686018427387904 := by
  have := Nat.mul_le_mul (show x.natAbs ≤ 2147483648 by omega) (show a.natAbs ≤ 2147483648 by omega)
  rw [← Int.natAbs_mul] at this; omega
set_option maxHeartbeats 800000 in
theorem euclid_Bezout (a b : Int) (w : World) (h1 : -2147483648 ≤ a) (h2 : a ≤ 2147483648) (h3 : -2147483648 ≤ b) (h4 : b ≤ 2147483648) :
    Calls Try.prog 74 #[.int .i64 a, .int .i64 b] w (BezPost a b w) := by
  have hf : [a, b].any farB = false := by simp [farB_no h1 h2, farB_no h3 h4]
  go_enter Try.func74, Try.ntmps74
  go_wp2_with fail
  refine (euclid_far [a, b] _ _ (by simp) ?_).mono ?_
  · intro k hk
    match k, hk with
    | 0, _ => simp
    | 1, _ => simp
  rintro e w' ⟨rfl, rfl⟩
  go_wp2_with fail
  refine (euclid_step _ _ _ h1 h2 h3 h4).mono ?_
  rintro e w' ⟨g, x, y, rfl, hg, hy, b1, b2, _, rfl⟩
  by_cases hb : b = 0
  · subst hb
    by_cases ha : a = 0
    · subst ha
      have HG := Lib.hid hg
      clear hg hy
      by_cases hlt : g < 0
      all_goals
        go_wp2
        refine bodyPost_ret (v := .tuple #[.int .i64 0, .int .i64 0, .int .i64 0, .int .i64 0]) (by simp [results, Try.results74, go_sem]) rfl ?_
        exact ⟨0, 0, by simp, by simp, fun h => absurd rfl h, by simp, (Below.refl _ _).alloc (Nat.le_refl _) _⟩
    · have HG := Lib.hid hg
      have HY := Lib.hid hy
      clear hg hy
      by_cases hlt : g < 0
      · go_wp2
        refine bodyPost_ret (v := .tuple #[.int .i64 (-g), .int .i64 (-x), .int .i64 0, .int .i64 0]) (by simp [results, Try.results74, go_sem]) rfl ?_
        have e1 : (Int.gcd a 0 : Int) = -g := by have := HG.out; omega
        exact ⟨-x, 0, by rw [e1], by rw [e1, ← HY.out, Int.neg_mul]; omega, fun h => absurd rfl h, by omega, (Below.refl _ _).alloc (Nat.le_refl _) _⟩
      · go_wp2
        refine bodyPost_ret (v := .tuple #[.int .i64 g, .int .i64 x, .int .i64 0, .int .i64 0]) (by simp [results, Try.results74, go_sem]) rfl ?_
        have e1 : (Int.gcd a 0 : Int) = g := by have := HG.out; omega
        exact ⟨x, 0, by rw [e1], by rw [e1, ← HY.out]; omega, fun h => absurd rfl h, by omega, (Below.refl _ _).alloc (Nat.le_refl _) _⟩
  · have key : ∀ g' x' y' : Int, (g' : Int) = Int.gcd a b → x' * a + y' * b = g' →
        ∃ k z : Int, 0 < g' ∧ (b.natAbs : Int).tdiv g' = k ∧ 1 ≤ k ∧ k ≤ 2147483648 ∧ 0 ≤ x' % k ∧ x' % k ≤ 2147483648 ∧ -4611686018427387904 ≤ x' % k * a ∧ x' % k * a ≤ 4611686018427387904 ∧
          (g' - x' % k * a).tdiv b = z ∧ x' % k * a + z * b = g' ∧ -4611686030000000000 ≤ z ∧ z ≤ 4611686030000000000 ∧ g' ≤ 2147483648 := by
      intro g' x' y' e1 e2
      obtain ⟨q1, q2, q3, q4, q5⟩ := M.bez hb e1 e2
      obtain ⟨k, hk⟩ : ∃ k, (b.natAbs : Int).tdiv g' = k := ⟨_, rfl⟩
      rw [hk] at q2 q3 q4 q5
      have m1 := Int.emod_nonneg x' (show k ≠ 0 by omega)
      have m2 := Int.emod_lt_of_pos x' (show 0 < k by omega)
      have m3 := prod_bd m1 (by omega) h1 h2
      have hgle : g' ≤ 2147483648 := by
        have : g' ≤ k * g' := by have := Int.mul_le_mul_of_nonneg_right q2 (Int.le_of_lt q1); omega
        omega
      obtain ⟨z, hz⟩ := q5
      have ez : (g' - x' % k * a).tdiv b = z := by rw [hz]; exact Int.mul_tdiv_cancel_left z hb
      refine ⟨k, z, q1, hk, q2, by omega, m1, by omega, m3.1, m3.2, ez, by rw [Int.mul_comm z b, ← hz]; omega, ?_, ?_, hgle⟩
      · have : z.natAbs ≤ (g' - x' % k * a).natAbs := by rw [hz, Int.natAbs_mul]; exact Nat.le_mul_of_pos_left _ (by omega)
        omega
      · have : z.natAbs ≤ (g' - x' % k * a).natAbs := by rw [hz, Int.natAbs_mul]; exact Nat.le_mul_of_pos_left _ (by omega)
        omega
    by_cases hlt : g < 0
    · have e1 : -g = (Int.gcd a b : Int) := by omega
      obtain ⟨k, z, q1, q2, q3, q4, q5, q6, q7, q8, q9, q10, q11, q12, q13⟩ := key (-g) (-x) (-y) e1 (by rw [← hy, Int.neg_mul, Int.neg_mul]; omega)
      have HE := Lib.hid e1
      have HZ := Lib.hid q10
      clear e1 q10 hg hy key
      go_wp2_with fail
      refine (euclid_abs _ _ (by omega) (by omega)).mono ?_
      rintro e w' ⟨rfl, rfl⟩
      go_wp2_with fail
      refine (euclid_Mod _ _ _ (by omega) (by omega)).mono ?_
      rintro e w' ⟨rfl, rfl⟩
      go_wp2
      go_quiet (fail)
      go_wp2
      refine bodyPost_ret (v := .tuple #[.int .i64 (-g), .int .i64 (-x % k), .int .i64 z, .int .i64 0]) (by simp [results, Try.results74, go_sem]) rfl ?_
      exact ⟨-x % k, z, by rw [← HE.out], by rw [← HE.out]; exact HZ.out, fun _ => ⟨q5, q6⟩, by omega, below_drewN ((Below.refl _ _).alloc (Nat.le_refl _) _) _⟩
    · have e1 : g = (Int.gcd a b : Int) := by omega
      obtain ⟨k, z, q1, q2, q3, q4, q5, q6, q7, q8, q9, q10, q11, q12, q13⟩ := key g x y e1 hy
      have HE := Lib.hid e1
      have HZ := Lib.hid q10
      clear e1 q10 hg hy key
      go_wp2_with fail
      refine (euclid_abs _ _ (by omega) (by omega)).mono ?_
      rintro e w' ⟨rfl, rfl⟩
      go_wp2_with fail
      refine (euclid_Mod _ _ _ (by omega) (by omega)).mono ?_
      rintro e w' ⟨rfl, rfl⟩
      go_wp2
      go_quiet (fail)
      go_wp2
      refine bodyPost_ret (v := .tuple #[.int .i64 g, .int .i64 (x % k), .int .i64 z, .int .i64 0]) (by simp [results, Try.results74, go_sem]) rfl ?_
      exact ⟨x % k, z, by rw [← HE.out], by rw [← HE.out]; exact HZ.out, fun _ => ⟨q5, q6⟩, by omega, below_drewN ((Below.refl _ _).alloc (Nat.le_refl _) _) _⟩
end Go.Proofs.Ytceocooppjfjjaa
