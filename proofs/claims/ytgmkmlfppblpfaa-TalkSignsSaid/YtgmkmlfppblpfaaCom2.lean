/- Contracts of package commit: over, Break. -/
import Derived.Test.YtgmkmlfppblpfaaWCom
namespace Go.Proofs.Ytgmkmlfppblpfaa
open Go.RowKit
set_option linter.unusedVariables false
set_option linter.unusedSimpArgs false
theorem inv_call (a m : Int) (w : World) (h1 : 0 ≤ a) (h2 : a ≤ 2147483648) (h3 : 1 ≤ m) (h4 : m ≤ 1048576) (hg : Int.gcd a m = 1) :
    Calls Try.prog 45 #[.int .i64 a, .int .i64 m] w fun e w' => (∃ i : Int, e = .returned (.tuple #[.int .i64 i, .int .i64 0]) ∧ 0 ≤ i ∧ i < m ∧ m ∣ i * a - 1) ∧ Below w.heap.size w w' := by
  refine (euclid_Inverse a m w (by omega) h2 h3 h4).mono ?_
  rintro e w' ⟨h | h, hb⟩
  · exact ⟨h.2, hb⟩
  · exact absurd hg h.1
/-- a quotient by Q -/
def OverPost (Q a b : Int) (w : World) (e : Ending) (w' : World) : Prop := (∃ j : Int, 0 ≤ j ∧ j < Q ∧ b % Q * j % Q = 1 ∧ e = .returned (.int .i64 (a % Q * j % Q))) ∧ Below w.heap.size w w'
set_option maxHeartbeats 1600000 in
theorem commit_over (P Q G H a b : Int) (w : World) (hq : prB Q = true) (q2 : 2 ≤ Q) (q3 : Q ≤ 1048576) (ha : -1048576 ≤ a) (ha2 : a ≤ 1048576) (hb : -1048576 ≤ b) (hb2 : b ≤ 1048576) (hn : ¬ b % Q = 0) :
    Calls Try.prog 40 #[.agg #[.int .i64 P, .int .i64 Q, .int .i64 G, .int .i64 H], .int .i64 a, .int .i64 b] w (OverPost Q a b w) := by
  have b1 := Int.emod_nonneg b (show Q ≠ 0 by omega)
  have b2 := Int.emod_lt_of_pos b (show 0 < Q by omega)
  have a1 := Int.emod_nonneg a (show Q ≠ 0 by omega)
  have a2 := Int.emod_lt_of_pos a (show 0 < Q by omega)
  have hg : Int.gcd (b % Q) Q = 1 := by
    obtain ⟨e, hQ⟩ := prB_int hq q2
    rw [Int.gcd_comm, ← e]
    exact hQ.gcd_int fun hd => by
      rw [e] at hd
      have := Int.le_of_dvd (by omega) hd
      omega
  have HI := Lib.hid fun w => inv_call (b % Q) Q w b1 (by omega) (by omega) q3 hg
  have f3 : (Q == 0) = false := by simp; omega
  have f4 : ¬ Q = 0 := by omega
  clear hg
  go_enter Try.func40, Try.ntmps40
  go_wp2_with fail
  go_region_held3 (fun w' => w'.cell? ⟨w.heap.size, 1, none⟩ = some (.int .i64 Q))
    (first | go_keep | exact kept hb1 (by simp [go_sem]) (by simp; omega) | exact kept hb1 (by simp [go_sem]) (by simp [go_sem]))
    (first | (go_at_call 46; refine (euclid_Mod b Q _ (by omega) (by omega)).mono ?_; rintro e w' ⟨rfl, rfl⟩) | (go_at_call 45; refine (HI.out _).mono ?_; rintro e w1 ⟨⟨i, rfl, i1, i2, i3⟩, hb1⟩))
  rename_i hk
  have q := mul_lim a1 (by omega) i1 (by omega)
  have f1 : IntKind.i64.wrap (a % Q * i) = a % Q * i := IntWalk.i64_in _ (by omega)
  have f2 : Int.tmod (a % Q * i) Q = a % Q * i % Q := Int.tmod_eq_emod_of_nonneg q.1
  have z1 : w.heap.size + 1 ≤ w1.heap.size := by have := hb1.size; simpa using this
  have HF : Hid (b % Q * i % Q = 1) := Lib.hid (by
    have h1 := (Int.emod_emod_of_dvd (i * (b % Q)) (Int.dvd_refl Q)).symm
    have h2 := Int.emod_eq_emod_iff_emod_sub_eq_zero.2 (Int.emod_eq_zero_of_dvd i3)
    rw [Int.mul_comm, h2, Int.emod_eq_of_lt (by omega) (by omega)])
  clear i3
  go_wp2_with fail
  go_quiet ((go_at_call 46; exact quiet_same (euclid_Mod a Q _ (by omega) (by omega))))
  go_wp2
  go_ret
  exact ⟨⟨i, i1, i2, HF.out, rfl⟩, below_drewN (below_two (((Below.refl _ _).alloc (Nat.le_refl _) _).drew) hb1) _⟩
/-- the pairs bind alike, and are not the same -/
def BrkOk (P Q G H m r n s : Int) : Prop := (grpE P Q G H = 0 ∧ (0 ≤ m ∧ m < Q) ∧ 0 ≤ r ∧ r < Q) ∧ (grpE P Q G H = 0 ∧ (0 ≤ n ∧ n < Q) ∧ 0 ≤ s ∧ s < Q) ∧ com P G H m r = com P G H n s ∧ ¬ (m = n ∧ r = s)
theorem brk_pw {P Q G H m r n s : Int} (h : BrkOk P Q G H m r n s) : ¬ (s - r) % Q = 0 ∧ pw G ((m - n) % Q) P = pw H ((s - r) % Q) P := by
  obtain ⟨⟨hg, ⟨m1, m2⟩, r1, r2⟩, ⟨_, ⟨n1, n2⟩, s1, s2⟩, hc, hne⟩ := h
  have ⟨⟨g1, g2, g3, g4, g5, _⟩, hp, hq, _, hG, hH⟩ := grpE_zero hg
  have hH' := memB_iff.1 hH
  have key : pw G (m + (Q - n)) P = pw H (s + (Q - r)) P := by
    have o : ∀ {x : Int}, memB P Q x = true → ∀ k, 0 ≤ k → k ≤ Q → pw x k P * pw x (Q - k) P % P = 1 := fun {x} hx k k1 k2 => by
      rw [pw_add x P k1 (by omega), show k + (Q - k) = Q by omega]; exact (memB_iff.1 hx).2.2
    have e1 : com P G H m r * (pw G (Q - n) P * pw H (Q - r) P) % P = pw G (m + (Q - n)) P := by
      unfold com
      rw [← pw_add G P m1 (show 0 ≤ Q - n by omega), Int.mul_emod, Int.emod_emod, ← Int.mul_emod]
      rw [show pw G m P * pw H r P * (pw G (Q - n) P * pw H (Q - r) P) = (pw G m P * pw G (Q - n) P) * (pw H r P * pw H (Q - r) P) by
        rw [Int.mul_assoc, Int.mul_assoc, Int.mul_left_comm (pw H r P)]]
      rw [Int.mul_emod, o hH r r1 (by omega), Int.mul_one, Int.emod_emod]
    have e2 : com P G H n s * (pw G (Q - n) P * pw H (Q - r) P) % P = pw H (s + (Q - r)) P := by
      unfold com
      rw [← pw_add H P s1 (show 0 ≤ Q - r by omega), Int.mul_emod, Int.emod_emod, ← Int.mul_emod]
      rw [show pw G n P * pw H s P * (pw G (Q - n) P * pw H (Q - r) P) = (pw G n P * pw G (Q - n) P) * (pw H s P * pw H (Q - r) P) by
        rw [Int.mul_assoc, Int.mul_assoc, Int.mul_left_comm (pw H s P)]]
      rw [Int.mul_emod, o hG n n1 (by omega), Int.one_mul, Int.emod_emod]
    rw [← e1, ← e2, hc]
  have e3 : (m - n) % Q = (m + (Q - n)) % Q := by rw [show m + (Q - n) = m - n + Q by omega, Int.add_emod_right]
  have e4 : (s - r) % Q = (s + (Q - r)) % Q := by rw [show s + (Q - r) = s - r + Q by omega, Int.add_emod_right]
  have k2 : pw G ((m - n) % Q) P = pw H ((s - r) % Q) P := by
    rw [e3, e4, pw_mod (by omega) (by omega) hG (by omega), pw_mod (by omega) (by omega) hH (by omega), key]
  refine ⟨fun h0 => ?_, k2⟩
  rw [h0, pw_zero, ← pw_zero G] at k2
  have hi := pw_inj hp hq (by omega) (by omega) hG g5 (Int.emod_nonneg _ (by omega)) (Int.emod_lt_of_pos _ (by omega)) (Int.le_refl 0) (by omega) k2
  refine hne ⟨?_, ?_⟩
  · have := Int.emod_eq_zero_of_dvd (Int.dvd_of_emod_eq_zero hi)
    obtain ⟨c, hc⟩ := Int.dvd_of_emod_eq_zero hi
    have : -Q < Q * c ∧ Q * c < Q := by omega
    rcases Int.lt_trichotomy c 0 with h | h | h
    · have := Int.mul_le_mul_of_nonneg_left (show c ≤ -1 by omega) (show 0 ≤ Q by omega); omega
    · subst h; omega
    · have := Int.mul_le_mul_of_nonneg_left (show 1 ≤ c by omega) (show 0 ≤ Q by omega); omega
  · obtain ⟨c, hc⟩ := Int.dvd_of_emod_eq_zero h0
    have : -Q < Q * c ∧ Q * c < Q := by omega
    rcases Int.lt_trichotomy c 0 with h | h | h
    · have := Int.mul_le_mul_of_nonneg_left (show c ≤ -1 by omega) (show 0 ≤ Q by omega); omega
    · subst h; omega
    · have := Int.mul_le_mul_of_nonneg_left (show 1 ≤ c by omega) (show 0 ≤ Q by omega); omega
theorem brk_log {P Q G H m r n s j : Int} (h : BrkOk P Q G H m r n s) (j1 : 0 ≤ j) (hj : (s - r) % Q * j % Q = 1) : pw G ((m - n) % Q * j % Q) P = H := by
  have k := (brk_pw h).2
  obtain ⟨⟨hg, ⟨m1, m2⟩, r1, r2⟩, _⟩ := h
  have ⟨⟨g1, g2, g3, g4, g5, _⟩, hp, hq, _, hG, hH⟩ := grpE_zero hg
  have a0 := Int.emod_nonneg (m - n) (show Q ≠ 0 by omega)
  have b0 := Int.emod_nonneg (s - r) (show Q ≠ 0 by omega)
  rw [pw_mod (by omega) (by omega) hG (Int.mul_nonneg a0 j1), ← pw_pw G P a0 j1, k, pw_pw H P b0 j1, ← pw_mod (by omega) (by omega) hH (Int.mul_nonneg b0 j1), hj]
  have := memB_iff.1 hH
  unfold pw
  rw [show (1 : Int).toNat = 1 from rfl, Int.pow_one, Int.emod_eq_of_lt (by omega) this.2.1]
end Go.Proofs.Ytgmkmlfppblpfaa
