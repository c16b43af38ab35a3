/- Contracts of package commit: Commit. -/
import Derived.Test.YtgmkmlfppblpfaaWGrp
import Derived.Test.YtgmkmlfppblpfaaGrp5
namespace Go.Proofs.Ytgmkmlfppblpfaa
open Go.RowKit
set_option linter.unusedVariables false
set_option linter.unusedSimpArgs false
theorem shE_H {P Q G H a : Int} (h : grpE P Q G H = 0) : shE P Q G H a H = 0 ↔ 0 ≤ a ∧ a < Q := by
  refine ⟨fun h' => ⟨(shE_zero h').2.1, (shE_zero h').2.2.1⟩, fun h' => shE_ok h h'.1 h'.2 (grpE_zero h).2.2.2.2.2⟩
/-- what binds -/
def com (P G H m r : Int) : Int := pw G m P * pw H r P % P
set_option maxHeartbeats 1600000 in
theorem commit_Commit (P Q G H m r : Int) (w : World) (hg : grpE P Q G H = 0) (hm : 0 ≤ m ∧ m < Q) (hr : 0 ≤ r ∧ r < Q) :
    Calls Try.prog 21 #[.agg #[.int .i64 P, .int .i64 Q, .int .i64 G, .int .i64 H], .int .i64 m, .int .i64 r] w fun e w' => e = .returned (.tuple #[.int .i64 (com P G H m r), .int .i64 0]) ∧ Below w.heap.size w w' := by
  have H1 := Lib.hid ((shE_own (a := m) hg).2 hm)
  have H2 := Lib.hid ((shE_H (a := r) hg).2 hr)
  have ⟨⟨g1, g2, g3, g4, g5, _⟩, hp, hq, _⟩ := grpE_zero hg
  clear hg hm hr hp hq
  have p1 := pw_nonneg G m (show 1 ≤ P by omega)
  have p2 := pw_lt G m (show 1 ≤ P by omega)
  have p3 := pw_nonneg H r (show 1 ≤ P by omega)
  have p4 := pw_lt H r (show 1 ≤ P by omega)
  unfold com
  obtain ⟨x, hx⟩ : ∃ x, pw G m P = x := ⟨_, rfl⟩
  obtain ⟨y, hy⟩ : ∃ x, pw H r P = x := ⟨_, rfl⟩
  rw [hx] at p1 p2
  rw [hy] at p3 p4
  rw [hx, hy]
  have HX := Lib.hid hx
  have HY := Lib.hid hy
  clear hx hy
  have q := mul_lim p1 (by omega) p3 (by omega)
  have f1 : IntKind.i64.wrap (x * y) = x * y := IntWalk.i64_in _ (by omega)
  have f2 : Int.tmod (x * y) P = x * y % P := Int.tmod_eq_emod_of_nonneg q.1
  have f3 : (P == 0) = false := by simp; omega
  have f4 : ¬ P = 0 := by omega
  go_enter Try.func21, Try.ntmps21
  go_wp2_with fail
  refine (group_Shared P Q G H m G _ H1.out).mono ?_
  rintro e w1 ⟨rfl, hb1⟩
  rw [HX.out]
  have z1 := hb1.size
  simp at z1
  have k0 := kept hb1 (b := w.heap.size) (o := 0) (v := .int .i64 P) (by simp [go_sem]) (by simp [go_sem] <;> omega)
  have k1 := kept hb1 (b := w.heap.size) (o := 1) (v := .int .i64 Q) (by simp [go_sem]) (by simp [go_sem] <;> omega)
  have k2 := kept hb1 (b := w.heap.size) (o := 2) (v := .int .i64 G) (by simp [go_sem]) (by simp [go_sem] <;> omega)
  have k3 := kept hb1 (b := w.heap.size) (o := 3) (v := .int .i64 H) (by simp [go_sem]) (by simp [go_sem] <;> omega)
  go_wp2_with fail
  refine (group_Shared P Q G H r H _ H2.out).mono ?_
  rintro e w2 ⟨rfl, hb2⟩
  rw [HY.out]
  replace k0 := kept hb2 k0 (by omega)
  go_wp2
  go_ret2
  exact ⟨rfl, below_two (below_two ((Below.refl _ _).alloc (Nat.le_refl _) _) hb1) hb2⟩
set_option maxHeartbeats 1600000 in
theorem commit_Commit_no (P Q G H m r : Int) (w : World) (h : ¬ (grpE P Q G H = 0 ∧ (0 ≤ m ∧ m < Q) ∧ 0 ≤ r ∧ r < Q)) :
    Calls Try.prog 21 #[.agg #[.int .i64 P, .int .i64 Q, .int .i64 G, .int .i64 H], .int .i64 m, .int .i64 r] w fun e w' => (∃ t : Int, ¬ t = 0 ∧ e = .returned (.tuple #[.int .i64 0, .int .i64 t])) ∧ Below w.heap.size w w' := by
  by_cases h1 : shE P Q G H m G = 0
  · have hg := (shE_zero h1).1
    have hm := (shE_own hg).1 h1
    have h2 : ¬ shE P Q G H r H = 0 := fun e => h ⟨hg, hm, (shE_H hg).1 e⟩
    have H1 := Lib.hid h1
    have H2 := Lib.hid h2
    obtain ⟨t, ht⟩ : ∃ t, shE P Q G H r H = t := ⟨_, rfl⟩
    have ht0 : ¬ t = 0 := fun h => h2 (ht.trans h)
    have hta : (t == 0) = false := by simpa using ht0
    have htb : (t != 0) = true := by simpa using ht0
    have HT := Lib.hid ht
    clear h h1 h2 hg hm ht
    go_enter Try.func21, Try.ntmps21
    go_wp2_with fail
    refine (group_Shared P Q G H m G _ H1.out).mono ?_
    rintro e w1 ⟨rfl, hb1⟩
    have z1 := hb1.size
    simp at z1
    have k0 := kept hb1 (b := w.heap.size) (o := 0) (v := .int .i64 P) (by simp [go_sem]) (by simp [go_sem] <;> omega)
    have k1 := kept hb1 (b := w.heap.size) (o := 1) (v := .int .i64 Q) (by simp [go_sem]) (by simp [go_sem] <;> omega)
    have k2 := kept hb1 (b := w.heap.size) (o := 2) (v := .int .i64 G) (by simp [go_sem]) (by simp [go_sem] <;> omega)
    have k3 := kept hb1 (b := w.heap.size) (o := 3) (v := .int .i64 H) (by simp [go_sem]) (by simp [go_sem] <;> omega)
    go_wp2_with fail
    refine (group_Shared_no P Q G H r H _ H2.out).mono ?_
    rintro e w2 ⟨rfl, hb2⟩
    rw [HT.out]
    go_wp2
    go_ret2
    exact ⟨⟨t, ht0, rfl⟩, below_two (below_two ((Below.refl _ _).alloc (Nat.le_refl _) _) hb1) hb2⟩
  · have H1 := Lib.hid h1
    obtain ⟨t, ht⟩ : ∃ t, shE P Q G H m G = t := ⟨_, rfl⟩
    have ht0 : ¬ t = 0 := fun h => h1 (ht.trans h)
    have hta : (t == 0) = false := by simpa using ht0
    have htb : (t != 0) = true := by simpa using ht0
    have HT := Lib.hid ht
    clear h h1 ht
    go_enter Try.func21, Try.ntmps21
    go_wp2_with fail
    refine (group_Shared_no P Q G H m G _ H1.out).mono ?_
    rintro e w1 ⟨rfl, hb1⟩
    rw [HT.out]
    go_wp2
    go_ret2
    exact ⟨⟨t, ht0, rfl⟩, below_two ((Below.refl _ _).alloc (Nat.le_refl _) _) hb1⟩
end Go.Proofs.Ytgmkmlfppblpfaa
