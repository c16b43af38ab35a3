/- Contracts of package group: wrong. -/
import Derived.Test.YtkodhpjmmiapaaaGrp2
namespace Go.Proofs.Ytkodhpjmmiapaaa
open Go.RowKit
set_option linter.unusedVariables false
set_option linter.unusedSimpArgs false
/-- a row of numbers that lies behind an address -/
def RowI (W : World) (a : Option Addr) (zs : List Int) : Prop := ∀ (i : Nat) x, zs[i]? = some x → ∃ b o, a = some ⟨b, o, none⟩ ∧ b < W.heap.size ∧ W.cell? ⟨b, o + i, none⟩ = some (.int .i64 x)
theorem RowI.nil (W : World) (a : Option Addr) : RowI W a [] := fun i x h => by simp at h
theorem RowI.below {W W' : World} {a : Option Addr} {zs : List Int} (h : RowI W a zs) (hb : Below W.heap.size W W') : RowI W' a zs := fun i x hx => by
  obtain ⟨b, o, e1, e2, e3⟩ := h i x hx
  exact ⟨b, o, e1, Nat.lt_of_lt_of_le e2 hb.size, kept hb e3 e2⟩
/-- are all such powers as may be? -/
def powsB (Q : Int) (zs : List Int) : Bool := zs.all fun a => decide (0 ≤ a) && decide (a < Q)
def memsB (P Q : Int) (zs : List Int) : Bool := zs.all fun x => memB P Q x
noncomputable def wrongE (P Q G H : Int) (zp zm : List Int) : Int := if grpE P Q G H = 0 then (if powsB Q zp = true then (if memsB P Q zm = true then 0 else 4) else 2) else grpE P Q G H
theorem powsB_get {Q : Int} {zs : List Int} (h : powsB Q zs = true) {i : Nat} {x : Int} (hx : zs[i]? = some x) : 0 ≤ x ∧ x < Q := by
  have := List.all_eq_true.1 h x (List.mem_of_getElem? hx); simpa using this
theorem powsB_no {Q : Int} {zs : List Int} {i : Nat} {x : Int} (hx : zs[i]? = some x) (h : ¬ (0 ≤ x ∧ x < Q)) : powsB Q zs = false := by
  cases e : powsB Q zs
  · rfl
  · exact absurd (powsB_get e hx) h
theorem memsB_no {P Q : Int} {zs : List Int} {i : Nat} {x : Int} (hx : zs[i]? = some x) (h : memB P Q x = false) : memsB P Q zs = false := by
  cases e : memsB P Q zs
  · rfl
  · have := List.all_eq_true.1 e x (List.mem_of_getElem? hx); rw [h] at this; cases this
theorem powsB_all {Q : Int} {zs : List Int} (h : ∀ (i : Nat) x, zs[i]? = some x → 0 ≤ x ∧ x < Q) : powsB Q zs = true := List.all_eq_true.2 fun x hx => by
  obtain ⟨i, hi⟩ := List.mem_iff_getElem?.1 hx; have := h i x hi; simp [this.1, this.2]
theorem memsB_all {P Q : Int} {zs : List Int} (h : ∀ (i : Nat) x, zs[i]? = some x → memB P Q x = true) : memsB P Q zs = true := List.all_eq_true.2 fun x hx => by
  obtain ⟨i, hi⟩ := List.mem_iff_getElem?.1 hx; exact h i x hi
def PreP (Q : Int) (zs : List Int) (I : Nat) : Prop := ∀ (i : Nat) x, i < I → zs[i]? = some x → 0 ≤ x ∧ x < Q
def PreM (P Q : Int) (zs : List Int) (I : Nat) : Prop := ∀ (i : Nat) x, i < I → zs[i]? = some x → memB P Q x = true
set_option maxHeartbeats 3200000 in
theorem group_wrong (P Q G H : Int) (ap am : Option Addr) (cp cm : Nat) (zp zm : List Int) (w : World) (h1 : RowI w ap zp) (h2 : RowI w am zm) (l1 : zp.length ≤ 8) (l2 : zm.length ≤ 8) :
    Calls Try.prog 53 #[.agg #[.int .i64 P, .int .i64 Q, .int .i64 G, .int .i64 H], .slice ap zp.length cp, .slice am zm.length cm] w fun e w' => e = .returned (.int .i64 (wrongE P Q G H zp zm)) ∧ Below w.heap.size w w' := by
  obtain ⟨L, hL⟩ : ∃ L, L = zp.length := ⟨_, rfl⟩
  obtain ⟨N, hN⟩ : ∃ L, L = zm.length := ⟨_, rfl⟩
  rw [← hL] at l1 ⊢
  rw [← hN] at l2 ⊢
  have HL := Lib.hid hL
  have HN := Lib.hid hN
  clear hL hN
  by_cases hg : grpE P Q G H = 0
  · have HW : Hid (wrongE P Q G H zp zm = (if powsB Q zp = true then (if memsB P Q zm = true then 0 else 4) else 2)) := Lib.hid (by unfold wrongE; rw [if_pos hg])
    have HG := Lib.hid hg
    have ⟨g1, g2, g3, g4, _⟩ := (grpE_zero hg).1
    clear hg
    go_enter Try.func53, Try.ntmps53
    go_wp2_with fail
    refine (group_Check P Q G H _).mono ?_
    rintro e w1 ⟨rfl, hb1⟩
    rw [HG.out]
    have z1 := hb1.size
    simp at z1
    have k0 := kept hb1 (b := w.heap.size) (o := 0) (v := .int .i64 P) (by simp) (by simp)
    have k1 := kept hb1 (b := w.heap.size) (o := 1) (v := .int .i64 Q) (by simp) (by simp)
    have k2 := kept hb1 (b := w.heap.size) (o := 2) (v := .int .i64 G) (by simp) (by simp)
    have k3 := kept hb1 (b := w.heap.size) (o := 3) (v := .int .i64 H) (by simp) (by simp)
    go_wp2
    go_loopw [19] (fun i wr => ∃ I : Nat, i = .int .i64 I ∧ I ≤ L ∧ PreP Q zp I ∧ Below w1.heap.size w1 wr) (fun i _ => L - (intOf i).toNat)
    case atStart => exact ⟨0, rfl, by omega, (fun i x hi => absurd hi (Nat.not_lt_zero _)), Below.refl _ _⟩
    case round =>
      obtain ⟨I, rfl, hi, hp, hb⟩ := hrel
      have kq := (hb.cell (p := ⟨w.heap.size, 1, none⟩) (by simp; omega)).trans k1
      by_cases hlt : I < L
      · obtain ⟨x, hx⟩ : ∃ x, zp[I]? = some x := ⟨_, List.getElem?_eq_getElem (by rw [← HL.out]; exact hlt)⟩
        obtain ⟨b, o, rfl, c2, c3⟩ := h1 I x hx
        have hBw : Below w.heap.size w w1 := below_two ((Below.refl _ _).alloc (Nat.le_refl _) _) hb1
        have kx := (hb.cell (p := ⟨b, o + I, none⟩) (by simp; omega)).trans ((hBw.cell (p := ⟨b, o + I, none⟩) c2).trans c3)
        have HX := Lib.hid hx
        clear hx
        by_cases x1 : x < 0
        · have HF := Lib.hid (powsB_no HX.out (by omega : ¬ (0 ≤ x ∧ x < Q)))
          go_wp2
          go_ret
          exact ⟨ret_int (by rw [HW.out, HF.out]; rfl), below_two hBw hb⟩
        · by_cases x2 : Q ≤ x
          · have HF := Lib.hid (powsB_no HX.out (by omega : ¬ (0 ≤ x ∧ x < Q)))
            go_wp2
            go_ret
            exact ⟨ret_int (by rw [HW.out, HF.out]; rfl), below_two hBw hb⟩
          · go_wp2
            go_round
            case rel => exact ⟨I + 1, by go_num, by omega, (fun i y h1 h2 => by
              by_cases e : i = I
              · subst e; have := HX.out; rw [h2] at this; cases this; omega
              · exact hp i y (by omega) h2), hb⟩
            case measure => simp [intOf]; omega
      · go_wp2
        have HP : Hid (powsB Q zp = true) := Lib.hid (powsB_all fun i y h => hp i y (by
          have := (List.getElem?_eq_some_iff.1 h).1
          have := HL.out
          omega) h)
        clear kq
        have hBr : Below w1.heap.size w1 wr := hb
        go_loopw [34] (fun i wr => ∃ I : Nat, i = .int .i64 I ∧ I ≤ N ∧ PreM P Q zm I ∧ Below w1.heap.size w1 wr) (fun i _ => N - (intOf i).toNat)
        case atStart => exact ⟨0, rfl, by omega, (fun i x hi => absurd hi (Nat.not_lt_zero _)), hBr⟩
        case round =>
          obtain ⟨J, rfl, hj, hq, hb⟩ := hrel
          have m0 := (hb.cell (p := ⟨w.heap.size, 0, none⟩) (by simp; omega)).trans k0
          have m1 := (hb.cell (p := ⟨w.heap.size, 1, none⟩) (by simp; omega)).trans k1
          have m2 := (hb.cell (p := ⟨w.heap.size, 2, none⟩) (by simp; omega)).trans k2
          have m3 := (hb.cell (p := ⟨w.heap.size, 3, none⟩) (by simp; omega)).trans k3
          have hBw : Below w.heap.size w w1 := below_two ((Below.refl _ _).alloc (Nat.le_refl _) _) hb1
          by_cases hlt : J < N
          · obtain ⟨x, hx⟩ : ∃ x, zm[J]? = some x := ⟨_, List.getElem?_eq_getElem (by rw [← HN.out]; exact hlt)⟩
            obtain ⟨b, o, rfl, c2, c3⟩ := h2 J x hx
            have kx := (hb.cell (p := ⟨b, o + J, none⟩) (by simp; omega)).trans ((hBw.cell (p := ⟨b, o + J, none⟩) c2).trans c3)
            have HX := Lib.hid hx
            clear hx
            obtain ⟨y, hy⟩ : ∃ y, memB P Q x = y := ⟨_, rfl⟩
            have HY := Lib.hid hy
            clear hy
            go_wp2_with fail
            refine (group_Member P Q G H x _ (by omega) g2 (by omega) (by omega)).mono ?_
            rintro e w2 ⟨rfl, hb2⟩
            rw [HY.out]
            rcases y with _ | _
            · have HF := Lib.hid (memsB_no HX.out HY.out)
              go_wp2
              go_ret
              exact ⟨ret_int (by rw [HW.out, HP.out, HF.out]; rfl), below_two (below_two hBw hb) hb2⟩
            · go_wp2
              go_round
              case rel => exact ⟨J + 1, by go_num, by omega, (fun i y h1 h2 => by
                by_cases e : i = J
                · subst e; have := HX.out; rw [h2] at this; cases this; exact HY.out
                · exact hq i y (by omega) h2), below_two hb hb2⟩
              case measure => simp [intOf]; omega
          · have HF : Hid (memsB P Q zm = true) := Lib.hid (memsB_all fun i y h => hq i y (by
              have := (List.getElem?_eq_some_iff.1 h).1
              have := HN.out
              omega) h)
            go_wp2
            go_ret
            exact ⟨ret_int (by rw [HW.out, HP.out, HF.out]; rfl), below_two hBw hb⟩
  · have HW : Hid (wrongE P Q G H zp zm = grpE P Q G H) := Lib.hid (by unfold wrongE; rw [if_neg hg])
    obtain ⟨t, ht⟩ : ∃ t, grpE P Q G H = t := ⟨_, rfl⟩
    rw [ht] at hg HW
    have HT := Lib.hid ht
    clear ht
    have e1 : (t == 0) = false := by simpa using hg
    have e2 : (t != 0) = true := by simpa using hg
    go_enter Try.func53, Try.ntmps53
    go_wp2_with fail
    refine (group_Check P Q G H _).mono ?_
    rintro e w1 ⟨rfl, hb1⟩
    rw [HT.out]
    go_wp2
    go_ret
    exact ⟨ret_int HW.out.symm, below_two ((Below.refl _ _).alloc (Nat.le_refl _) _) hb1⟩
end Go.Proofs.Ytkodhpjmmiapaaa
