/- commit.Other where it finds nothing, and the walk of the statement CommitHides. -/
import Derived.Test.YtgmkmlfppblpfaaOth
namespace Go.Proofs.Ytgmkmlfppblpfaa
open Go.RowKit
set_option linter.unusedVariables false
set_option linter.unusedSimpArgs false
set_option maxRecDepth 20000 in
set_option maxHeartbeats 1600000 in
theorem Other_no1 (P Q G H c m l : Int) (w : World) (h1 : ¬ shE P Q G H m G = 0) :
    Calls Try.prog 22 #[.agg #[.int .i64 P, .int .i64 Q, .int .i64 G, .int .i64 H], .int .i64 c, .int .i64 m, .int .i64 l] w fun e w' => (∃ t : Int, ¬ t = 0 ∧ e = .returned (.tuple #[.int .i64 0, .int .i64 t])) ∧ Below w.heap.size w w' := by
  have H1 := Lib.hid h1
  obtain ⟨t, ht⟩ : ∃ t, shE P Q G H m G = t := ⟨_, rfl⟩
  have ht0 : ¬ t = 0 := fun h => h1 (ht.trans h)
  have hta : (t == 0) = false := by simpa using ht0
  have htb : (t != 0) = true := by simpa using ht0
  have HT := Lib.hid ht
  clear h1 ht
  have hi0 : ∀ w, (Instr.index 67 (.agg #[.int .i64 m, .int .i64 l]) (.int .i64 0)).run Try.prog w = .ok (.int .i64 m) w := fun _ => rfl
  have hi1 : ∀ w, (Instr.index 67 (.agg #[.int .i64 m, .int .i64 l]) (.int .i64 1)).run Try.prog w = .ok (.int .i64 l) w := fun _ => rfl
  go_enter Try.func22, Try.ntmps22
  go_wp2
  go_loopw [19] (fun i wr => (i = .int .i64 0) ∧ w.heap.size + 1 ≤ wr.heap.size ∧ Below w.heap.size w wr ∧ wr.cell? ⟨w.heap.size, 0, none⟩ = some (.int .i64 P) ∧ wr.cell? ⟨w.heap.size, 1, none⟩ = some (.int .i64 Q) ∧ wr.cell? ⟨w.heap.size, 2, none⟩ = some (.int .i64 G) ∧ wr.cell? ⟨w.heap.size, 3, none⟩ = some (.int .i64 H)) (fun i _ => 2 - (intOf i).toNat)
  case atStart => exact ⟨rfl, by simp, (Below.refl _ _).alloc (Nat.le_refl _) _, by simp, by simp, by simp, by simp⟩
  case round =>
    obtain ⟨hi, z, hb, k0, k1, k2, k3⟩ := hrel
    rcases hi with rfl
    go_wp2_with fail
    refine (group_Public_no P Q G H m _ H1.out).mono ?_
    rintro e w1 ⟨rfl, hb1⟩
    rw [HT.out]
    go_wp2
    go_ret2
    exact ⟨⟨t, ht0, rfl⟩, below_two hb hb1⟩
set_option maxRecDepth 20000 in
set_option maxHeartbeats 1600000 in
theorem Other_no2 (P Q G H c m l : Int) (w : World) (h1 : shE P Q G H m G = 0) (h2 : ¬ shE P Q G H l G = 0) :
    Calls Try.prog 22 #[.agg #[.int .i64 P, .int .i64 Q, .int .i64 G, .int .i64 H], .int .i64 c, .int .i64 m, .int .i64 l] w fun e w' => (∃ t : Int, ¬ t = 0 ∧ e = .returned (.tuple #[.int .i64 0, .int .i64 t])) ∧ Below w.heap.size w w' := by
  have H1 := Lib.hid h1
  have H2 := Lib.hid h2
  obtain ⟨t, ht⟩ : ∃ t, shE P Q G H l G = t := ⟨_, rfl⟩
  have ht0 : ¬ t = 0 := fun h => h2 (ht.trans h)
  have hta : (t == 0) = false := by simpa using ht0
  have htb : (t != 0) = true := by simpa using ht0
  have HT := Lib.hid ht
  clear h1 h2 ht
  have hi0 : ∀ w, (Instr.index 67 (.agg #[.int .i64 m, .int .i64 l]) (.int .i64 0)).run Try.prog w = .ok (.int .i64 m) w := fun _ => rfl
  have hi1 : ∀ w, (Instr.index 67 (.agg #[.int .i64 m, .int .i64 l]) (.int .i64 1)).run Try.prog w = .ok (.int .i64 l) w := fun _ => rfl
  go_enter Try.func22, Try.ntmps22
  go_wp2
  go_loopw [19] (fun i wr => (i = .int .i64 0 ∨ i = .int .i64 1) ∧ w.heap.size + 1 ≤ wr.heap.size ∧ Below w.heap.size w wr ∧ wr.cell? ⟨w.heap.size, 0, none⟩ = some (.int .i64 P) ∧ wr.cell? ⟨w.heap.size, 1, none⟩ = some (.int .i64 Q) ∧ wr.cell? ⟨w.heap.size, 2, none⟩ = some (.int .i64 G) ∧ wr.cell? ⟨w.heap.size, 3, none⟩ = some (.int .i64 H)) (fun i _ => 2 - (intOf i).toNat)
  case atStart => exact ⟨.inl rfl, by simp, (Below.refl _ _).alloc (Nat.le_refl _) _, by simp, by simp, by simp, by simp⟩
  case round =>
    obtain ⟨hi, z, hb, k0, k1, k2, k3⟩ := hrel
    rcases hi with rfl | rfl
    · go_wp2_with fail
      refine (group_Public P Q G H m _ H1.out).mono ?_
      rintro e w1 ⟨rfl, hb1⟩
      have z1 := hb1.size
      replace k0 := kept hb1 k0 (by omega)
      replace k1 := kept hb1 k1 (by omega)
      replace k2 := kept hb1 k2 (by omega)
      replace k3 := kept hb1 k3 (by omega)
      go_wp2
      go_round
      case rel => exact ⟨.inr (by go_num), by omega, below_two hb hb1, k0, k1, k2, k3⟩
      case measure => simp [intOf]
    · go_wp2_with fail
      refine (group_Public_no P Q G H l _ H2.out).mono ?_
      rintro e w1 ⟨rfl, hb1⟩
      rw [HT.out]
      go_wp2
      go_ret2
      exact ⟨⟨t, ht0, rfl⟩, below_two hb hb1⟩
set_option maxRecDepth 20000 in
set_option maxHeartbeats 1600000 in
theorem Other_no3 (P Q G H c m l : Int) (w : World) (hg : grpE P Q G H = 0) (hm : 0 ≤ m ∧ m < Q) (hl : 0 ≤ l ∧ l < Q) (hc : memB P Q c = true) (hH : ¬ pw G l P = H) :
    Calls Try.prog 22 #[.agg #[.int .i64 P, .int .i64 Q, .int .i64 G, .int .i64 H], .int .i64 c, .int .i64 m, .int .i64 l] w fun e w' => (∃ t : Int, ¬ t = 0 ∧ e = .returned (.tuple #[.int .i64 0, .int .i64 t])) ∧ Below w.heap.size w w' := by
  have ⟨⟨g1, g2, g3, g4, g5, _, h2, _⟩, hp, hq, _, hG, hHm⟩ := grpE_zero hg
  have H1 := Lib.hid ((shE_own (a := m) hg).2 hm)
  have H2 := Lib.hid ((shE_own (a := l) hg).2 hl)
  have HM := Lib.hid hc
  obtain ⟨l1, l2⟩ := hl
  obtain ⟨x, hx⟩ : ∃ x, pw G l P = x := ⟨_, rfl⟩
  rw [hx] at hH
  have HX := Lib.hid hx
  have n1 : (x == H) = false := by simpa using hH
  have n2 : (x != H) = true := by simpa using hH
  clear hg hc hp hq hG hHm hx hm
  have hi0 : ∀ w, (Instr.index 67 (.agg #[.int .i64 m, .int .i64 l]) (.int .i64 0)).run Try.prog w = .ok (.int .i64 m) w := fun _ => rfl
  have hi1 : ∀ w, (Instr.index 67 (.agg #[.int .i64 m, .int .i64 l]) (.int .i64 1)).run Try.prog w = .ok (.int .i64 l) w := fun _ => rfl
  go_enter Try.func22, Try.ntmps22
  go_wp2
  go_loopw [19] (fun i wr => (i = .int .i64 0 ∨ i = .int .i64 1 ∨ i = .int .i64 2) ∧ w.heap.size + 1 ≤ wr.heap.size ∧ Below w.heap.size w wr ∧ wr.cell? ⟨w.heap.size, 0, none⟩ = some (.int .i64 P) ∧ wr.cell? ⟨w.heap.size, 1, none⟩ = some (.int .i64 Q) ∧ wr.cell? ⟨w.heap.size, 2, none⟩ = some (.int .i64 G) ∧ wr.cell? ⟨w.heap.size, 3, none⟩ = some (.int .i64 H)) (fun i _ => 2 - (intOf i).toNat)
  case atStart => exact ⟨.inl rfl, by simp, (Below.refl _ _).alloc (Nat.le_refl _) _, by simp, by simp, by simp, by simp⟩
  case round =>
    obtain ⟨hi, z, hb, k0, k1, k2, k3⟩ := hrel
    rcases hi with rfl | rfl | rfl
    · go_wp2_with fail
      refine (group_Public P Q G H m _ H1.out).mono ?_
      rintro e w1 ⟨rfl, hb1⟩
      have z1 := hb1.size
      replace k0 := kept hb1 k0 (by omega)
      replace k1 := kept hb1 k1 (by omega)
      replace k2 := kept hb1 k2 (by omega)
      replace k3 := kept hb1 k3 (by omega)
      go_wp2
      go_round
      case rel => exact ⟨.inr (.inl (by go_num)), by omega, below_two hb hb1, k0, k1, k2, k3⟩
      case measure => simp [intOf]
    · go_wp2_with fail
      refine (group_Public P Q G H l _ H2.out).mono ?_
      rintro e w1 ⟨rfl, hb1⟩
      have z1 := hb1.size
      replace k0 := kept hb1 k0 (by omega)
      replace k1 := kept hb1 k1 (by omega)
      replace k2 := kept hb1 k2 (by omega)
      replace k3 := kept hb1 k3 (by omega)
      go_wp2
      go_round
      case rel => exact ⟨.inr (.inr (by go_num)), by omega, below_two hb hb1, k0, k1, k2, k3⟩
      case measure => simp [intOf]
    · go_wp2_with fail
      refine (group_Member P Q G H c _ (by omega) g2 (by omega) (by omega)).mono ?_
      rintro e w1 ⟨rfl, hb1⟩
      rw [HM.out]
      have z1 := hb1.size
      replace k0 := kept hb1 k0 (by omega)
      replace k1 := kept hb1 k1 (by omega)
      replace k2 := kept hb1 k2 (by omega)
      replace k3 := kept hb1 k3 (by omega)
      have hbw := below_two hb hb1
      clear hb hb1
      go_wp2_with fail
      go_quiet ((go_at_call 37; exact quiet_same (power_Of' G l P _ (by omega) (by omega) (by omega) g2)))
      rw [HX.out]
      go_wp2
      go_ret2
      exact ⟨⟨3, by decide, rfl⟩, below_drewN hbw _⟩
theorem pows2 {P Q G H a b : Int} : ((powsB Q [a, b] && (grpE P Q G H == 0)) = true) ↔ (grpE P Q G H = 0 ∧ (0 ≤ a ∧ a < Q) ∧ 0 ≤ b ∧ b < Q) := by
  simp [powsB]; constructor
  · intro h; exact ⟨h.2, h.1.1, h.1.2⟩
  · intro h; exact ⟨⟨h.2.1, h.2.2⟩, h.1⟩
end Go.Proofs.Ytgmkmlfppblpfaa
