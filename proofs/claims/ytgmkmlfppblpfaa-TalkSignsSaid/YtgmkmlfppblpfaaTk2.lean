/- Contracts of package talk: said. -/
import Derived.Test.YtgmkmlfppblpfaaTk
namespace Go.Proofs.Ytgmkmlfppblpfaa
open Go.RowKit
set_option linter.unusedVariables false
set_option linter.unusedSimpArgs false
/-- a row of talks: First, Asked, Answer -/
def RowT (W : World) (a : Option Addr) (ts : List (Int × Int × Int)) : Prop := ∀ (i : Nat) x, ts[i]? = some x → ∃ b, a = some ⟨b, 0, none⟩ ∧ b < W.heap.size ∧
  W.cell? ⟨b, i * 3, none⟩ = some (.int .i64 x.1) ∧ W.cell? ⟨b, i * 3 + 1, none⟩ = some (.int .i64 x.2.1) ∧ W.cell? ⟨b, i * 3 + 2, none⟩ = some (.int .i64 x.2.2)
/-- may it have been said? -/
def saidB (P Q : Int) (y : Int) (ts : List (Int × Int × Int)) : Bool := (ts.all fun x => powsB Q [x.2.1, x.2.2]) && (memB P Q y && ts.all fun x => memB P Q x.1)
def PreT (f : Int × Int × Int → Bool) (ts : List (Int × Int × Int)) (I : Nat) : Prop := ∀ (i : Nat) x, i < I → ts[i]? = some x → f x = true
theorem preT_all {f : Int × Int × Int → Bool} {ts : List (Int × Int × Int)} {I L : Nat} (h : PreT f ts I) (hl : L = ts.length) (hI : L ≤ I) : ts.all f = true := List.all_eq_true.2 fun x hx => by
  obtain ⟨i, hi⟩ := List.mem_iff_getElem?.1 hx
  exact h i x (by have := (List.getElem?_eq_some_iff.1 hi).1; omega) hi
theorem all_no {f : Int × Int × Int → Bool} {ts : List (Int × Int × Int)} {i : Nat} {x : Int × Int × Int} (hx : ts[i]? = some x) (h : f x = false) : ts.all f = false := by
  cases e : ts.all f
  · rfl
  · have := List.all_eq_true.1 e x (List.mem_of_getElem? hx); rw [h] at this; cases this
def SaidPost (P Q G H y : Int) (ts : List (Int × Int × Int)) (w : World) (e : Ending) (w' : World) : Prop :=
  ((saidB P Q y ts = true ∧ e = .returned (.int .i64 0)) ∨ (saidB P Q y ts = false ∧ ∃ t : Int, ¬ t = 0 ∧ e = .returned (.int .i64 t))) ∧ Below w.heap.size w w'
set_option maxRecDepth 20000 in
set_option maxHeartbeats 3200000 in
theorem talk_said (P Q G H y : Int) (ap : Option Addr) (cp : Nat) (ts : List (Int × Int × Int)) (w : World) (h1 : RowT w ap ts) (l1 : ts.length ≤ 4) (hg : grpE P Q G H = 0) :
    Calls Try.prog 43 #[.agg #[.int .i64 P, .int .i64 Q, .int .i64 G, .int .i64 H], .int .i64 y, .slice ap ts.length cp] w (SaidPost P Q G H y ts w) := by
  obtain ⟨L, hL⟩ : ∃ L, L = ts.length := ⟨_, rfl⟩
  rw [← hL] at l1 ⊢
  have HL := Lib.hid hL
  have ⟨⟨g1, g2, g3, g4, g5, _⟩, _⟩ := grpE_zero hg
  have HG := Lib.hid hg
  clear hL hg
  go_enter Try.func43, Try.ntmps43
  go_wp2
  obtain ⟨w1, hw1⟩ : ∃ W, W = w.alloc (.cells #[.int .i64 P, .int .i64 Q, .int .i64 G, .int .i64 H] 23) := ⟨_, rfl⟩
  have z1 : w1.heap.size = w.heap.size + 1 := by rw [hw1]; simp
  have k0 : w1.cell? ⟨w.heap.size, 0, none⟩ = some (.int .i64 P) := by rw [hw1]; simp
  have k1 : w1.cell? ⟨w.heap.size, 1, none⟩ = some (.int .i64 Q) := by rw [hw1]; simp
  have k2 : w1.cell? ⟨w.heap.size, 2, none⟩ = some (.int .i64 G) := by rw [hw1]; simp
  have k3 : w1.cell? ⟨w.heap.size, 3, none⟩ = some (.int .i64 H) := by rw [hw1]; simp
  have hBw : Below w.heap.size w w1 := by rw [hw1]; exact (Below.refl _ _).alloc (Nat.le_refl _) _
  rw [← hw1]
  clear hw1
  go_loopw [14] (fun i wr => ∃ I : Nat, i = .int .i64 I ∧ I ≤ L ∧ PreT (fun x => powsB Q [x.2.1, x.2.2]) ts I ∧ Below w1.heap.size w1 wr) (fun i _ => L - (intOf i).toNat)
  case atStart => exact ⟨0, rfl, by omega, (fun i x hi => absurd hi (Nat.not_lt_zero _)), Below.refl _ _⟩
  case round =>
    obtain ⟨I, rfl, hi, hp, hb⟩ := hrel
    have m0 := (hb.cell (p := ⟨w.heap.size, 0, none⟩) (by simp; omega)).trans k0
    have m1 := (hb.cell (p := ⟨w.heap.size, 1, none⟩) (by simp; omega)).trans k1
    have m2 := (hb.cell (p := ⟨w.heap.size, 2, none⟩) (by simp; omega)).trans k2
    have m3 := (hb.cell (p := ⟨w.heap.size, 3, none⟩) (by simp; omega)).trans k3
    have zr := hb.size
    have lr : w.heap.size < wr.heap.size := by omega
    by_cases hlt : I < L
    · obtain ⟨⟨f, q, v⟩, hx⟩ : ∃ x, ts[I]? = some x := ⟨_, List.getElem?_eq_getElem (by rw [← HL.out]; exact hlt)⟩
      obtain ⟨b, rfl, c2, c3, c4, c5⟩ := h1 I _ hx
      have d3 := (hb.cell (p := ⟨b, I * 3, none⟩) (by simp; omega)).trans ((hBw.cell (p := ⟨b, I * 3, none⟩) c2).trans c3)
      have d4 := (hb.cell (p := ⟨b, I * 3 + 1, none⟩) (by simp; omega)).trans ((hBw.cell (p := ⟨b, I * 3 + 1, none⟩) c2).trans c4)
      have d5 := (hb.cell (p := ⟨b, I * 3 + 2, none⟩) (by simp; omega)).trans ((hBw.cell (p := ⟨b, I * 3 + 2, none⟩) c2).trans c5)
      simp only at d3 d4 d5
      have HX := Lib.hid hx
      clear hx c3 c4 c5
      by_cases hq : powsB Q [q, v] = true
      · have HQ := Lib.hid hq
        go_wp2_with fail
        refine (talk_powers P Q G H _ 2 [q, v] _ ?r1 (by simp) HG.out HQ.out).mono ?_
        case r1 => exact RowI.two (by simp [go_sem]) (by simp [go_sem]) (by simp [go_sem])
        rintro e w2 ⟨rfl, hb2⟩
        replace hb2 := below_two (((Below.refl _ wr).alloc (Nat.le_refl _) _).alloc (by simp) _) hb2
        clear hq
        go_wp2
        go_round
        case rel => exact ⟨I + 1, by go_num, by omega, (fun i y h1 h2 => by
          by_cases e : i = I
          · subst e; have := HX.out; rw [h2] at this; cases this; exact HQ.out
          · exact hp i y (by omega) h2), below_two hb hb2⟩
        case measure => simp [intOf]; omega
      · have HQ := Lib.hid (all_no (f := fun x => powsB Q [x.2.1, x.2.2]) HX.out (pows_not hq))
        have HN : Hid (¬ (grpE P Q G H = 0 ∧ powsB Q [q, v] = true)) := Lib.hid fun h => hq h.2
        clear hq
        go_wp2_with fail
        refine (talk_powers_no P Q G H _ 2 [q, v] _ ?r1 (by simp) HN.out).mono ?_
        case r1 => exact RowI.two (by simp [go_sem]) (by simp [go_sem]) (by simp [go_sem])
        rintro e w2 ⟨⟨t, ht0, rfl⟩, hb2⟩
        replace hb2 := below_two (((Below.refl _ wr).alloc (Nat.le_refl _) _).alloc (by simp) _) hb2
        have hta : (t == 0) = false := by simpa using ht0
        have htb : (t != 0) = true := by simpa using ht0
        go_wp2
        go_ret
        exact ⟨.inr ⟨by unfold saidB; rw [HQ.out]; rfl, t, ht0, rfl⟩, below_two (below_two hBw hb) hb2⟩
    · have HQ := Lib.hid (preT_all hp HL.out (by omega))
      rcases hy : memB P Q y with _ | _
      · have HY := Lib.hid hy
        clear hy
        go_wp2_with fail
        refine (group_Member P Q G H y _ (by omega) g2 (by omega) (by omega)).mono ?_
        rintro e w2 ⟨rfl, hb2⟩
        rw [HY.out]
        go_wp2
        go_ret
        exact ⟨.inr ⟨by unfold saidB; rw [HQ.out, HY.out]; rfl, 4, by decide, rfl⟩, below_two (below_two hBw hb) hb2⟩
      · have HY := Lib.hid hy
        clear hy
        go_wp2_with fail
        refine (group_Member P Q G H y _ (by omega) g2 (by omega) (by omega)).mono ?_
        rintro e w2 ⟨rfl, hb2⟩
        rw [HY.out]
        replace hb := below_two hb hb2
        have hBr : Below w1.heap.size w1 w2 := hb
        clear m0 m1 m2 m3 hb
        go_wp2
        go_loopw [35] (fun i wr => ∃ I : Nat, i = .int .i64 I ∧ I ≤ L ∧ PreT (fun x => memB P Q x.1) ts I ∧ Below w1.heap.size w1 wr) (fun i _ => L - (intOf i).toNat)
        case atStart => exact ⟨0, rfl, by omega, (fun i x hi => absurd hi (Nat.not_lt_zero _)), hBr⟩
        case round =>
          clear hlt hi hp zr lr
          obtain ⟨I, rfl, hi, hp, hb⟩ := hrel
          have m0 := (hb.cell (p := ⟨w.heap.size, 0, none⟩) (by simp; omega)).trans k0
          have m1 := (hb.cell (p := ⟨w.heap.size, 1, none⟩) (by simp; omega)).trans k1
          have m2 := (hb.cell (p := ⟨w.heap.size, 2, none⟩) (by simp; omega)).trans k2
          have m3 := (hb.cell (p := ⟨w.heap.size, 3, none⟩) (by simp; omega)).trans k3
          have zr := hb.size
          have lr : w.heap.size < wr.heap.size := by omega
          by_cases hlt : I < L
          · obtain ⟨⟨f, q, v⟩, hx⟩ : ∃ x, ts[I]? = some x := ⟨_, List.getElem?_eq_getElem (by rw [← HL.out]; exact hlt)⟩
            obtain ⟨b, rfl, c2, c3, c4, c5⟩ := h1 I _ hx
            have d3 := (hb.cell (p := ⟨b, I * 3, none⟩) (by simp; omega)).trans ((hBw.cell (p := ⟨b, I * 3, none⟩) c2).trans c3)
            have d4 := (hb.cell (p := ⟨b, I * 3 + 1, none⟩) (by simp; omega)).trans ((hBw.cell (p := ⟨b, I * 3 + 1, none⟩) c2).trans c4)
            have d5 := (hb.cell (p := ⟨b, I * 3 + 2, none⟩) (by simp; omega)).trans ((hBw.cell (p := ⟨b, I * 3 + 2, none⟩) c2).trans c5)
            simp only at d3 d4 d5
            have HX := Lib.hid hx
            clear hx c3 c4 c5
            rcases hq : memB P Q f with _ | _
            · have HF := Lib.hid (all_no (f := fun x => memB P Q x.1) HX.out hq)
              have HM := Lib.hid hq
              clear hq
              go_wp2_with fail
              refine (group_Member P Q G H f _ (by omega) g2 (by omega) (by omega)).mono ?_
              rintro e w3 ⟨rfl, hb3⟩
              rw [HM.out]
              replace hb3 := below_two ((Below.refl _ wr).alloc (Nat.le_refl _) _) hb3
              go_wp2
              go_ret
              exact ⟨.inr ⟨by unfold saidB; rw [HQ.out, HY.out, HF.out]; rfl, 4, by decide, rfl⟩, below_two (below_two hBw hb) hb3⟩
            · have HM := Lib.hid hq
              clear hq
              go_wp2_with fail
              refine (group_Member P Q G H f _ (by omega) g2 (by omega) (by omega)).mono ?_
              rintro e w3 ⟨rfl, hb3⟩
              rw [HM.out]
              replace hb3 := below_two ((Below.refl _ wr).alloc (Nat.le_refl _) _) hb3
              go_wp2
              go_round
              case rel => exact ⟨I + 1, by go_num, by omega, (fun i y h1 h2 => by
                by_cases e : i = I
                · subst e; have := HX.out; rw [h2] at this; cases this; exact HM.out
                · exact hp i y (by omega) h2), below_two hb hb3⟩
              case measure => simp [intOf]; omega
          · have HF := Lib.hid (preT_all hp HL.out (by omega))
            go_wp2
            go_ret
            exact ⟨.inl ⟨by unfold saidB; rw [HQ.out, HY.out, HF.out]; rfl, rfl⟩, below_two hBw hb⟩
end Go.Proofs.Ytgmkmlfppblpfaa
