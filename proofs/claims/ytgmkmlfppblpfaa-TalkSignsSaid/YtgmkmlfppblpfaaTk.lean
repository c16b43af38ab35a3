/- Contracts of package talk: powers. -/
import Derived.Test.YtgmkmlfppblpfaaWGrp3
import Derived.Test.YtgmkmlfppblpfaaCom2
namespace Go.Proofs.Ytgmkmlfppblpfaa
open Go.RowKit
set_option linter.unusedVariables false
set_option linter.unusedSimpArgs false
set_option maxHeartbeats 1600000 in
theorem talk_powers (P Q G H : Int) (ap : Option Addr) (cp : Nat) (zp : List Int) (w : World) (h1 : RowI w ap zp) (l1 : zp.length ≤ 8) (hg : grpE P Q G H = 0) (hz : powsB Q zp = true) :
    Calls Try.prog 41 #[.agg #[.int .i64 P, .int .i64 Q, .int .i64 G, .int .i64 H], .slice ap zp.length cp] w fun e w' => e = .returned (.int .i64 0) ∧ Below w.heap.size w w' := by
  obtain ⟨L, hL⟩ : ∃ L, L = zp.length := ⟨_, rfl⟩
  rw [← hL] at l1 ⊢
  have HL := Lib.hid hL
  have HG := Lib.hid hg
  have HZ := Lib.hid hz
  clear hL hg hz
  go_enter Try.func41, Try.ntmps41
  go_wp2_with fail
  refine (group_Check P Q G H _).mono ?_
  rintro e w1 ⟨rfl, hb1⟩
  rw [HG.out]
  have z1 := hb1.size
  simp at z1
  have k0 := kept hb1 (b := w.heap.size) (o := 0) (v := .int .i64 P) (by simp) (by simp)
  have k1 := kept hb1 (b := w.heap.size) (o := 1) (v := .int .i64 Q) (by simp) (by simp)
  have k2 := kept hb1 (b := w.heap.size) (o := 2) (v := .int .i64 G) (by simp) (by simp)
  have k3 := kept hb1 (b := w.heap.size) (o := 3) (v := .int .i64 H) (by simp) (by simp)
  have hBw : Below w.heap.size w w1 := below_two ((Below.refl _ _).alloc (Nat.le_refl _) _) hb1
  clear hb1
  go_wp2
  go_loopw [17] (fun i wr => ∃ I : Nat, i = .int .i64 I ∧ I ≤ L ∧  Below w1.heap.size w1 wr) (fun i _ => L - (intOf i).toNat)
  case atStart => exact ⟨0, rfl, by omega,  Below.refl _ _⟩
  case round =>
    obtain ⟨I, rfl, hi,  hb⟩ := hrel
    have m0 := (hb.cell (p := ⟨w.heap.size, 0, none⟩) (by simp; omega)).trans k0
    have m1 := (hb.cell (p := ⟨w.heap.size, 1, none⟩) (by simp; omega)).trans k1
    have m2 := (hb.cell (p := ⟨w.heap.size, 2, none⟩) (by simp; omega)).trans k2
    have m3 := (hb.cell (p := ⟨w.heap.size, 3, none⟩) (by simp; omega)).trans k3
    have zr := hb.size
    by_cases hlt : I < L
    · obtain ⟨x, hx⟩ : ∃ x, zp[I]? = some x := ⟨_, List.getElem?_eq_getElem (by rw [← HL.out]; exact hlt)⟩
      obtain ⟨b, o, rfl, c2, c3⟩ := h1 I x hx
      have kx := (hb.cell (p := ⟨b, o + I, none⟩) (by have := hBw.size; simp; omega)).trans ((hBw.cell (p := ⟨b, o + I, none⟩) c2).trans c3)
      have HS := Lib.hid ((shE_own (a := x) HG.out).2 (powsB_get HZ.out hx))
      clear hx
      go_wp2_with fail
      refine (group_Public P Q G H x _ HS.out).mono ?_
      rintro e w2 ⟨rfl, hb2⟩
      go_wp2
      go_round
      case rel => exact ⟨I + 1, by go_num, by omega, below_two hb hb2⟩
      case measure => simp [intOf]; omega
    · go_wp2
      go_ret
      exact ⟨rfl, below_two hBw hb⟩
set_option maxHeartbeats 1600000 in
theorem talk_powers_bad (P Q G H : Int) (ap : Option Addr) (cp : Nat) (zp : List Int) (w : World) (h1 : RowI w ap zp) (l1 : zp.length ≤ 8) (hg : grpE P Q G H = 0) (hz : powsB Q zp = false) :
    Calls Try.prog 41 #[.agg #[.int .i64 P, .int .i64 Q, .int .i64 G, .int .i64 H], .slice ap zp.length cp] w fun e w' => (∃ t : Int, ¬ t = 0 ∧ e = .returned (.int .i64 t)) ∧ Below w.heap.size w w' := by
  obtain ⟨L, hL⟩ : ∃ L, L = zp.length := ⟨_, rfl⟩
  rw [← hL] at l1 ⊢
  have HL := Lib.hid hL
  have HG := Lib.hid hg
  have HZ := Lib.hid hz
  clear hL hg hz
  go_enter Try.func41, Try.ntmps41
  go_wp2_with fail
  refine (group_Check P Q G H _).mono ?_
  rintro e w1 ⟨rfl, hb1⟩
  rw [HG.out]
  have z1 := hb1.size
  simp at z1
  have k0 := kept hb1 (b := w.heap.size) (o := 0) (v := .int .i64 P) (by simp) (by simp)
  have k1 := kept hb1 (b := w.heap.size) (o := 1) (v := .int .i64 Q) (by simp) (by simp)
  have k2 := kept hb1 (b := w.heap.size) (o := 2) (v := .int .i64 G) (by simp) (by simp)
  have k3 := kept hb1 (b := w.heap.size) (o := 3) (v := .int .i64 H) (by simp) (by simp)
  have hBw : Below w.heap.size w w1 := below_two ((Below.refl _ _).alloc (Nat.le_refl _) _) hb1
  clear hb1
  go_wp2
  go_loopw [17] (fun i wr => ∃ I : Nat, i = .int .i64 I ∧ I ≤ L ∧ PreP Q zp I ∧ Below w1.heap.size w1 wr) (fun i _ => L - (intOf i).toNat)
  case atStart => exact ⟨0, rfl, by omega, (fun i x hi => absurd hi (Nat.not_lt_zero _)), Below.refl _ _⟩
  case round =>
    obtain ⟨I, rfl, hi, hp, hb⟩ := hrel
    have m0 := (hb.cell (p := ⟨w.heap.size, 0, none⟩) (by simp; omega)).trans k0
    have m1 := (hb.cell (p := ⟨w.heap.size, 1, none⟩) (by simp; omega)).trans k1
    have m2 := (hb.cell (p := ⟨w.heap.size, 2, none⟩) (by simp; omega)).trans k2
    have m3 := (hb.cell (p := ⟨w.heap.size, 3, none⟩) (by simp; omega)).trans k3
    have zr := hb.size
    by_cases hlt : I < L
    · obtain ⟨x, hx⟩ : ∃ x, zp[I]? = some x := ⟨_, List.getElem?_eq_getElem (by rw [← HL.out]; exact hlt)⟩
      obtain ⟨b, o, rfl, c2, c3⟩ := h1 I x hx
      have kx := (hb.cell (p := ⟨b, o + I, none⟩) (by have := hBw.size; simp; omega)).trans ((hBw.cell (p := ⟨b, o + I, none⟩) c2).trans c3)
      have HX := Lib.hid hx
      clear hx
      by_cases hx0 : 0 ≤ x ∧ x < Q
      · have HS := Lib.hid ((shE_own (a := x) HG.out).2 hx0)
        go_wp2_with fail
        refine (group_Public P Q G H x _ HS.out).mono ?_
        rintro e w2 ⟨rfl, hb2⟩
        go_wp2
        go_round
        case rel => exact ⟨I + 1, by go_num, by omega, (fun i y h1 h2 => by
          by_cases e : i = I
          · subst e; have := HX.out; rw [h2] at this; cases this; exact hx0
          · exact hp i y (by omega) h2), below_two hb hb2⟩
        case measure => simp [intOf]; omega
      · have HS := Lib.hid (fun h => hx0 ((shE_own (a := x) HG.out).1 h))
        obtain ⟨t, ht⟩ : ∃ t, shE P Q G H x G = t := ⟨_, rfl⟩
        have ht0 : ¬ t = 0 := fun h => HS.out (ht.trans h)
        have hta : (t == 0) = false := by simpa using ht0
        have htb : (t != 0) = true := by simpa using ht0
        have HT := Lib.hid ht
        clear hx0 ht
        go_wp2_with fail
        refine (group_Public_no P Q G H x _ HS.out).mono ?_
        rintro e w2 ⟨rfl, hb2⟩
        rw [HT.out]
        go_wp2
        go_ret
        exact ⟨⟨t, ht0, rfl⟩, below_two (below_two hBw hb) hb2⟩
    · exfalso
      have hp' : powsB Q zp = true := powsB_all fun i y h => hp i y (by
        have := (List.getElem?_eq_some_iff.1 h).1
        have := HL.out
        omega) h
      rw [HZ.out] at hp'
      cases hp'
set_option maxHeartbeats 1600000 in
theorem talk_powers_grp (P Q G H : Int) (ap : Option Addr) (cp : Nat) (L : Nat) (w : World) (hg : ¬ grpE P Q G H = 0) :
    Calls Try.prog 41 #[.agg #[.int .i64 P, .int .i64 Q, .int .i64 G, .int .i64 H], .slice ap L cp] w fun e w' => (∃ t : Int, ¬ t = 0 ∧ e = .returned (.int .i64 t)) ∧ Below w.heap.size w w' := by
  obtain ⟨t, ht⟩ : ∃ t, grpE P Q G H = t := ⟨_, rfl⟩
  have ht0 : ¬ t = 0 := fun h => hg (ht.trans h)
  have hta : (t == 0) = false := by simpa using ht0
  have htb : (t != 0) = true := by simpa using ht0
  have HT := Lib.hid ht
  clear hg ht
  go_enter Try.func41, Try.ntmps41
  go_wp2_with fail
  refine (group_Check P Q G H _).mono ?_
  rintro e w1 ⟨rfl, hb1⟩
  rw [HT.out]
  go_wp2
  go_ret
  exact ⟨⟨t, ht0, rfl⟩, below_two ((Below.refl _ _).alloc (Nat.le_refl _) _) hb1⟩
theorem talk_powers_no (P Q G H : Int) (ap : Option Addr) (cp : Nat) (zp : List Int) (w : World) (h1 : RowI w ap zp) (l1 : zp.length ≤ 8) (h : ¬ (grpE P Q G H = 0 ∧ powsB Q zp = true)) :
    Calls Try.prog 41 #[.agg #[.int .i64 P, .int .i64 Q, .int .i64 G, .int .i64 H], .slice ap zp.length cp] w fun e w' => (∃ t : Int, ¬ t = 0 ∧ e = .returned (.int .i64 t)) ∧ Below w.heap.size w w' := by
  by_cases hg : grpE P Q G H = 0
  · exact talk_powers_bad P Q G H ap cp zp w h1 l1 hg (pows_not fun e => h ⟨hg, e⟩)
  · exact talk_powers_grp P Q G H ap cp _ w hg
end Go.Proofs.Ytgmkmlfppblpfaa
