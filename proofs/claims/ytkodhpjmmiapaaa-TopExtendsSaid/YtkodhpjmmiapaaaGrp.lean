/- Contracts of package group and of the reference's group: Member, Check. -/
import Derived.Test.YtkodhpjmmiapaaaPw
import Derived.Test.YtkodhpjmmiapaaaPrC
import Derived.Test.YtkodhpjmmiapaaaRefIs
import Derived.Deep.RegionHeld3
namespace Go.Proofs.Ytkodhpjmmiapaaa
open Go.RowKit
set_option linter.unusedVariables false
set_option linter.unusedSimpArgs false
/-- is a number a member? -/
def memB (P Q x : Int) : Bool := decide (1 ≤ x) && (decide (x < P) && (pw x Q P == 1))
theorem memB_true {P Q x : Int} (h : memB P Q x = true) : 1 ≤ x ∧ x < P ∧ pw x Q P = 1 := by simpa [memB] using h
set_option maxHeartbeats 800000 in
theorem ref_Member (P Q G H x : Int) (w : World) (h1 : 1 ≤ P) (h2 : P ≤ 1048576) (h3 : 0 ≤ Q) (h4 : Q ≤ 1048576) :
    Calls Try.prog 31 #[.agg #[.int .i64 P, .int .i64 Q, .int .i64 G, .int .i64 H], .int .i64 x] w fun e w' => e = .returned (.bool (memB P Q x)) ∧ Below w.heap.size w w' := by
  by_cases c1 : 1 ≤ x
  · by_cases c2 : x < P
    · have hM : Hid (memB P Q x = (pw x Q P == 1)) := Lib.hid (by simp [memB, c1, c2])
      go_enter Try.func31, Try.ntmps31
      go_wp2_with (first | (go_at_call 48; refine (ref_Pow _ _ _ _ h3 (by omega) h1 h2).mono ?_; rintro e w' ⟨rfl, rfl⟩))
      go_ret
      exact ⟨ret_bool hM.out.symm, (Below.refl _ _).alloc (Nat.le_refl _) _⟩
    · have hM : Hid (memB P Q x = false) := Lib.hid (by simp [memB, c2])
      go_enter Try.func31, Try.ntmps31
      go_wp2
      go_ret
      exact ⟨ret_bool hM.out.symm, (Below.refl _ _).alloc (Nat.le_refl _) _⟩
  · have hM : Hid (memB P Q x = false) := Lib.hid (by simp [memB, c1])
    go_enter Try.func31, Try.ntmps31
    go_wp2
    go_ret
    exact ⟨ret_bool hM.out.symm, (Below.refl _ _).alloc (Nat.le_refl _) _⟩
set_option maxHeartbeats 800000 in
theorem group_Member (P Q G H x : Int) (w : World) (h1 : 1 ≤ P) (h2 : P ≤ 1048576) (h3 : 0 ≤ Q) (h4 : Q ≤ 1048576) :
    Calls Try.prog 18 #[.agg #[.int .i64 P, .int .i64 Q, .int .i64 G, .int .i64 H], .int .i64 x] w fun e w' => e = .returned (.bool (memB P Q x)) ∧ Below w.heap.size w w' := by
  by_cases c1 : 1 ≤ x
  · by_cases c2 : x < P
    · have hM : Hid (memB P Q x = (pw x Q P == 1)) := Lib.hid (by simp [memB, c1, c2])
      go_enter Try.func18, Try.ntmps18
      go_wp2_with (first | (go_at_call 34; refine (power_Of' _ _ _ _ h3 (by omega) h1 h2).mono ?_; rintro e w' ⟨rfl, rfl⟩))
      go_ret
      exact ⟨ret_bool hM.out.symm, (Below.refl _ _).alloc (Nat.le_refl _) _⟩
    · have hM : Hid (memB P Q x = false) := Lib.hid (by simp [memB, c2])
      go_enter Try.func18, Try.ntmps18
      go_wp2
      go_ret
      exact ⟨ret_bool hM.out.symm, (Below.refl _ _).alloc (Nat.le_refl _) _⟩
  · have hM : Hid (memB P Q x = false) := Lib.hid (by simp [memB, c1])
    go_enter Try.func18, Try.ntmps18
    go_wp2
    go_ret
    exact ⟨ret_bool hM.out.symm, (Below.refl _ _).alloc (Nat.le_refl _) _⟩
/-- are all four in range? -/
def GIn (P Q G H : Int) : Prop := 3 ≤ P ∧ P ≤ 1048576 ∧ 2 ≤ Q ∧ Q < P ∧ 2 ≤ G ∧ G < P ∧ 2 ≤ H ∧ H < P
instance (P Q G H : Int) : Decidable (GIn P Q G H) := by unfold GIn; infer_instance
/-- what is wrong with a group -/
noncomputable def grpE (P Q G H : Int) : Int := if GIn P Q G H then (if (prB P && (prB Q && ((P - 1) % Q == 0 && (memB P Q G && memB P Q H)))) = true then 0 else 3) else 2
theorem grpE_out {P Q G H : Int} (h : ¬ GIn P Q G H) : grpE P Q G H = 2 := by simp [grpE, h]
theorem grpE_ok {P Q G H : Int} (h : GIn P Q G H) (h1 : prB P = true) (h2 : prB Q = true) (h3 : (P - 1) % Q = 0) (h4 : memB P Q G = true) (h5 : memB P Q H = true) : grpE P Q G H = 0 := by simp [grpE, h, h1, h2, h3, h4, h5]
theorem grpE_bad {P Q G H : Int} (h : GIn P Q G H) (h1 : prB P = false ∨ prB Q = false ∨ ¬ (P - 1) % Q = 0 ∨ memB P Q G = false ∨ memB P Q H = false) : grpE P Q G H = 3 := by
  rcases h1 with h1 | h1 | h1 | h1 | h1 <;> simp [grpE, h, h1]
theorem grpE_zero {P Q G H : Int} (h : grpE P Q G H = 0) : GIn P Q G H ∧ prB P = true ∧ prB Q = true ∧ (P - 1) % Q = 0 ∧ memB P Q G = true ∧ memB P Q H = true := by
  unfold grpE at h
  by_cases g : GIn P Q G H
  · rw [if_pos g] at h
    by_cases e : (prB P && (prB Q && ((P - 1) % Q == 0 && (memB P Q G && memB P Q H)))) = true
    · simp at e; exact ⟨g, e.1, e.2.1, e.2.2.1, e.2.2.2.1, e.2.2.2.2⟩
    · rw [if_neg e] at h; omega
  · rw [if_neg g] at h; omega
theorem gin_pow {P Q G : Int} (h : 1 ≤ G) (h2 : G < P) : memB P Q G = true ↔ pw G Q P = 1 := by simp [memB, h, h2]
/-- five tests, one behind the other -/
theorem five {a b c d e : Bool} : (a = false) ∨ (a = true ∧ b = false) ∨ (a = true ∧ b = true ∧ c = false) ∨ (a = true ∧ b = true ∧ c = true ∧ d = false) ∨ (a = true ∧ b = true ∧ c = true ∧ d = true ∧ e = false) ∨ (a = true ∧ b = true ∧ c = true ∧ d = true ∧ e = true) := by
  cases a <;> cases b <;> cases c <;> cases d <;> cases e <;> simp
theorem not_gin {P Q G H : Int} (h : ¬ GIn P Q G H) : P < 3 ∨ (3 ≤ P ∧ 1048576 < P) ∨ (3 ≤ P ∧ P ≤ 1048576 ∧ Q < 2) ∨ (3 ≤ P ∧ P ≤ 1048576 ∧ 2 ≤ Q ∧ P ≤ Q) ∨ (3 ≤ P ∧ P ≤ 1048576 ∧ 2 ≤ Q ∧ Q < P ∧ G < 2)
    ∨ (3 ≤ P ∧ P ≤ 1048576 ∧ 2 ≤ Q ∧ Q < P ∧ 2 ≤ G ∧ P ≤ G) ∨ (3 ≤ P ∧ P ≤ 1048576 ∧ 2 ≤ Q ∧ Q < P ∧ 2 ≤ G ∧ G < P ∧ H < 2) ∨ (3 ≤ P ∧ P ≤ 1048576 ∧ 2 ≤ Q ∧ Q < P ∧ 2 ≤ G ∧ G < P ∧ 2 ≤ H ∧ P ≤ H) := by
  unfold GIn at h; omega
set_option maxHeartbeats 3200000 in
theorem ref_GroupCheck_out (P Q G H : Int) (w : World) (h : ¬ GIn P Q G H) :
    Calls Try.prog 30 #[.agg #[.int .i64 P, .int .i64 Q, .int .i64 G, .int .i64 H]] w fun e w' => e = .returned (.int .i64 2) ∧ Below w.heap.size w w' := by
  have c := not_gin h
  clear h
  rcases c with c1 | ⟨c1, c2⟩ | ⟨c1, c2, c3⟩ | ⟨c1, c2, c3, c4⟩ | ⟨c1, c2, c3, c4, c5⟩ | ⟨c1, c2, c3, c4, c5, c6⟩ | ⟨c1, c2, c3, c4, c5, c6, c7⟩ | ⟨c1, c2, c3, c4, c5, c6, c7, c8⟩
  all_goals
    go_enter Try.func30, Try.ntmps30
    go_wp2
    go_ret
    exact ⟨rfl, (Below.refl _ _).alloc (Nat.le_refl _) _⟩
set_option maxHeartbeats 3200000 in
theorem ref_GroupCheck (P Q G H : Int) (w : World) :
    Calls Try.prog 30 #[.agg #[.int .i64 P, .int .i64 Q, .int .i64 G, .int .i64 H]] w fun e w' => e = .returned (.int .i64 (grpE P Q G H)) ∧ Below w.heap.size w w' := by
  by_cases hg : GIn P Q G H
  · have HG := Lib.hid hg
    obtain ⟨g1, g2, g3, g4, g5, g6, g7, g8⟩ := hg
    have HB := Lib.hid (fun h1 => grpE_bad HG.out h1)
    have HO := Lib.hid (fun h1 h2 h3 h4 h5 => grpE_ok HG.out h1 h2 h3 h4 h5)
    have e4 := Lib.hid (gin_pow (Q := Q) (show 1 ≤ G by omega) g6)
    have e5 := Lib.hid (gin_pow (Q := Q) (show 1 ≤ H by omega) g8)
    obtain ⟨e, he⟩ : ∃ e, e = grpE P Q G H := ⟨_, rfl⟩
    rw [← he] at HB HO ⊢
    clear he
    have f2 : Int.tmod (P - 1) Q = (P - 1) % Q := Int.tmod_eq_emod_of_nonneg (by omega)
    have f3 : (Q == 0) = false := by simp; omega
    have f4 : ¬ Q = 0 := by omega
    have m1 : (memB P Q G = true ∧ pw G Q P = 1) ∨ (memB P Q G = false ∧ ¬ pw G Q P = 1) := by
      rcases hG : memB P Q G with _ | _
      · exact .inr ⟨rfl, fun x => by rw [e4.out.2 x] at hG; cases hG⟩
      · exact .inl ⟨rfl, e4.out.1 hG⟩
    have m2 : (memB P Q H = true ∧ pw H Q P = 1) ∨ (memB P Q H = false ∧ ¬ pw H Q P = 1) := by
      rcases hG : memB P Q H with _ | _
      · exact .inr ⟨rfl, fun x => by rw [e5.out.2 x] at hG; cases hG⟩
      · exact .inl ⟨rfl, e5.out.1 hG⟩
    clear e4 e5
    obtain ⟨x, hx⟩ : ∃ x, pw G Q P = x := ⟨_, rfl⟩
    obtain ⟨y, hy⟩ : ∃ y, pw H Q P = y := ⟨_, rfl⟩
    rw [hx] at m1; rw [hy] at m2
    have HX := Lib.hid hx
    have HY := Lib.hid hy
    obtain ⟨p, hp⟩ : ∃ p, prB P = p := ⟨_, rfl⟩
    obtain ⟨q, hq⟩ : ∃ q, prB Q = q := ⟨_, rfl⟩
    rw [hp, hq] at HB HO
    have HP := Lib.hid hp
    have HQ := Lib.hid hq
    obtain ⟨r, hr⟩ : ∃ r, (P - 1) % Q = r := ⟨_, rfl⟩
    rw [hr] at f2 HB HO
    clear hx hy hp hq hr
    have d1 : decide (P < 3) = false := decide_eq_false (by omega)
    have d2 : decide (1048576 < P) = false := decide_eq_false (by omega)
    have d3 : decide (Q < 2) = false := decide_eq_false (by omega)
    have d4 : decide (P ≤ Q) = false := decide_eq_false (by omega)
    have d5 : decide (G < 2) = false := decide_eq_false (by omega)
    have d6 : decide (P ≤ G) = false := decide_eq_false (by omega)
    have d7 : decide (H < 2) = false := decide_eq_false (by omega)
    have d8 : decide (P ≤ H) = false := decide_eq_false (by omega)
    rcases p with _ | _
    · have HF := Lib.hid (HB.out (.inl rfl))
      clear HB HO m1 m2
      go_enter Try.func30, Try.ntmps30
      go_wp2_with (first | (go_at_call 47; refine (ref_Is _ _ (by omega)).mono ?_; rintro e w' ⟨rfl, rfl⟩; first | rw [HP.out] | rw [HQ.out]) | (go_at_call 48; refine (ref_Pow _ _ _ _ (by omega) (by omega) (by omega) g2).mono ?_; rintro e w' ⟨rfl, rfl⟩; first | rw [HX.out] | rw [HY.out]))
      go_ret
      exact ⟨ret_int HF.out.symm, (Below.refl _ _).alloc (Nat.le_refl _) _⟩
    rcases q with _ | _
    · have HF := Lib.hid (HB.out (.inr (.inl rfl)))
      clear HB HO m1 m2
      go_enter Try.func30, Try.ntmps30
      go_wp2_with (first | (go_at_call 47; refine (ref_Is _ _ (by omega)).mono ?_; rintro e w' ⟨rfl, rfl⟩; first | rw [HP.out] | rw [HQ.out]) | (go_at_call 48; refine (ref_Pow _ _ _ _ (by omega) (by omega) (by omega) g2).mono ?_; rintro e w' ⟨rfl, rfl⟩; first | rw [HX.out] | rw [HY.out]))
      go_ret
      exact ⟨ret_int HF.out.symm, (Below.refl _ _).alloc (Nat.le_refl _) _⟩
    by_cases hr : r = 0
    · subst hr
      rcases m1 with ⟨m1, hx⟩ | ⟨m1, hx⟩
      · subst hx
        rcases m2 with ⟨m2, hy⟩ | ⟨m2, hy⟩
        · subst hy
          have HF := Lib.hid (HO.out rfl rfl rfl m1 m2)
          clear HB HO m1 m2
          go_enter Try.func30, Try.ntmps30
          go_wp2_with (first | (go_at_call 47; refine (ref_Is _ _ (by omega)).mono ?_; rintro e w' ⟨rfl, rfl⟩; first | rw [HP.out] | rw [HQ.out]) | (go_at_call 48; refine (ref_Pow _ _ _ _ (by omega) (by omega) (by omega) g2).mono ?_; rintro e w' ⟨rfl, rfl⟩; first | rw [HX.out] | rw [HY.out]))
          go_ret
          exact ⟨ret_int HF.out.symm, (Below.refl _ _).alloc (Nat.le_refl _) _⟩
        · have HF := Lib.hid (HB.out (.inr (.inr (.inr (.inr m2)))))
          clear HB HO m1 m2
          go_enter Try.func30, Try.ntmps30
          go_wp2_with (first | (go_at_call 47; refine (ref_Is _ _ (by omega)).mono ?_; rintro e w' ⟨rfl, rfl⟩; first | rw [HP.out] | rw [HQ.out]) | (go_at_call 48; refine (ref_Pow _ _ _ _ (by omega) (by omega) (by omega) g2).mono ?_; rintro e w' ⟨rfl, rfl⟩; first | rw [HX.out] | rw [HY.out]))
          go_ret
          exact ⟨ret_int HF.out.symm, (Below.refl _ _).alloc (Nat.le_refl _) _⟩
      · have HF := Lib.hid (HB.out (.inr (.inr (.inr (.inl m1)))))
        clear HB HO m1 m2
        go_enter Try.func30, Try.ntmps30
        go_wp2_with (first | (go_at_call 47; refine (ref_Is _ _ (by omega)).mono ?_; rintro e w' ⟨rfl, rfl⟩; first | rw [HP.out] | rw [HQ.out]) | (go_at_call 48; refine (ref_Pow _ _ _ _ (by omega) (by omega) (by omega) g2).mono ?_; rintro e w' ⟨rfl, rfl⟩; first | rw [HX.out] | rw [HY.out]))
        go_ret
        exact ⟨ret_int HF.out.symm, (Below.refl _ _).alloc (Nat.le_refl _) _⟩
    · have HF := Lib.hid (HB.out (.inr (.inr (.inl hr))))
      clear HB HO m1 m2
      go_enter Try.func30, Try.ntmps30
      go_wp2_with (first | (go_at_call 47; refine (ref_Is _ _ (by omega)).mono ?_; rintro e w' ⟨rfl, rfl⟩; first | rw [HP.out] | rw [HQ.out]) | (go_at_call 48; refine (ref_Pow _ _ _ _ (by omega) (by omega) (by omega) g2).mono ?_; rintro e w' ⟨rfl, rfl⟩; first | rw [HX.out] | rw [HY.out]))
      go_ret
      exact ⟨ret_int HF.out.symm, (Below.refl _ _).alloc (Nat.le_refl _) _⟩
  · rw [grpE_out hg]
    exact ref_GroupCheck_out P Q G H w hg
end Go.Proofs.Ytkodhpjmmiapaaa
