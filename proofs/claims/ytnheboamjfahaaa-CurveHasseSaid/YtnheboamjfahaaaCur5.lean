/- Contracts of package curve: spots, Add, Neg; of the statements' spots. -/
import Derived.Test.YtnheboamjfahaaaCur4
namespace Go.Proofs.Ytnheboamjfahaaa
open Go.RowKit
set_option linter.unusedVariables false
set_option linter.unusedSimpArgs false
/-- spots that lie behind an address -/
def RowS (W : World) (ad : Option Addr) (l : List Sp) : Prop := ∀ (i : Nat) s, l[i]? = some s → ∃ b o, ad = some ⟨b, o, none⟩ ∧ b < W.heap.size ∧ W.cell? ⟨b, o + i * 3, none⟩ = some (.int .i64 s.x) ∧ W.cell? ⟨b, o + i * 3 + 1, none⟩ = some (.int .i64 s.y) ∧ W.cell? ⟨b, o + i * 3 + 2, none⟩ = some (.bool s.far)
theorem RowS.nil (W : World) (a : Option Addr) : RowS W a [] := fun i x h => by simp at h
theorem RowS.below {W W' : World} {a : Option Addr} {l : List Sp} (h : RowS W a l) (hb : Below W.heap.size W W') : RowS W' a l := fun i x hx => by
  obtain ⟨b, o, e1, e2, e3, e4, e5⟩ := h i x hx
  exact ⟨b, o, e1, Nat.lt_of_lt_of_le e2 hb.size, kept hb e3 e2, kept hb e4 e2, kept hb e5 e2⟩
theorem RowS.one {W : World} {b : Nat} {s : Sp} (h0 : W.cell? ⟨b, 0, none⟩ = some (.int .i64 s.x)) (h1 : W.cell? ⟨b, 1, none⟩ = some (.int .i64 s.y)) (h2 : W.cell? ⟨b, 2, none⟩ = some (.bool s.far)) (hb : b < W.heap.size) : RowS W (some ⟨b, 0, none⟩) [s] := fun i y hy => by
  match i, hy with
  | 0, hy => cases hy; exact ⟨b, 0, rfl, hb, h0, h1, h2⟩
  | i + 1, hy => simp at hy
theorem RowS.two {W : World} {b : Nat} {s t : Sp} (h0 : W.cell? ⟨b, 0, none⟩ = some (.int .i64 s.x)) (h1 : W.cell? ⟨b, 1, none⟩ = some (.int .i64 s.y)) (h2 : W.cell? ⟨b, 2, none⟩ = some (.bool s.far))
    (h3 : W.cell? ⟨b, 3, none⟩ = some (.int .i64 t.x)) (h4 : W.cell? ⟨b, 4, none⟩ = some (.int .i64 t.y)) (h5 : W.cell? ⟨b, 5, none⟩ = some (.bool t.far)) (hb : b < W.heap.size) : RowS W (some ⟨b, 0, none⟩) [s, t] := fun i y hy => by
  match i, hy with
  | 0, hy => cases hy; exact ⟨b, 0, rfl, hb, h0, h1, h2⟩
  | 1, hy => cases hy; exact ⟨b, 0, rfl, hb, h3, h4, h5⟩
  | i + 2, hy => simp at hy
/-- are all of them spots of the curve? -/
noncomputable def spB (p a b : Int) (l : List Sp) : Bool := l.all fun s => onB p.toNat a b s
theorem spB_no {p a b : Int} {l : List Sp} (i : Nat) (s : Sp) (h : l[i]? = some s) (hf : onB p.toNat a b s = false) : spB p a b l = false := by
  unfold spB
  rw [List.all_eq_false]
  exact ⟨s, List.mem_of_getElem? h, by rw [hf]; simp⟩
theorem spB_yes {p a b : Int} {l : List Sp} (h : ∀ (i : Nat) (s : Sp), l[i]? = some s → onB p.toNat a b s = true) : spB p a b l = true := by
  unfold spB
  rw [List.all_eq_true]
  intro s hs
  obtain ⟨i, hi⟩ := List.getElem?_of_mem hs
  exact h i s hi
theorem spB_all {p a b : Int} {l : List Sp} (h : spB p a b l = true) : ∀ s ∈ l, OnC p.toNat a b s := fun s hs => onB_true (List.all_eq_true.1 h s hs)
theorem spB_of {p a b : Int} {l : List Sp} (h : ∀ s ∈ l, OnC p.toNat a b s) : spB p a b l = true := List.all_eq_true.2 fun s hs => onB_yes (h s hs)
/-- a curve that may be -/
structure Crv (p a b : Int) : Prop where
  p5 : 5 ≤ p
  p1 : p ≤ 1009
  a0 : 0 ≤ a
  a1 : a < p
  b0 : 0 ≤ b
  b1 : b < p
  pr : M.Pr p.toNat
  cast : ((p.toNat : Nat) : Int) = p
  disc : ¬ (p.toNat : Int) ∣ 4 * a * a * a + 27 * b * b
theorem cvE_zero {p a b : Int} (h : cvE p a b = 0) : Crv p a b := by
  unfold cvE at h
  split at h
  · omega
  · rename_i h1
    split at h
    · omega
    · rename_i h2
      have e : ((p.toNat : Nat) : Int) = p := by omega
      refine ⟨by omega, by omega, by omega, by omega, by omega, by omega, ?_, e, ?_⟩
      · cases hp : prB p with
        | false => exact absurd (.inl hp) h2
        | true => exact prB_true hp
      · rw [e]; exact fun hd => h2 (.inr (Int.emod_eq_zero_of_dvd hd))
theorem has_p (p a b : Int) (s : Sp) (w : World) (h : Crv p a b) :
    Calls Try.prog 20 #[.agg #[.int .i64 p, .int .i64 a, .int .i64 b], .agg #[.int .i64 s.x, .int .i64 s.y, .bool s.far]] w fun e w' => e = .returned (.bool (onB p.toNat a b s)) ∧ Below w.heap.size w w' := by
  have := curve_has p.toNat a b s w (by have := h.p5; omega) (by have := h.p1; omega) h.a0 (by rw [h.cast]; exact h.a1) h.b0 (by rw [h.cast]; exact h.b1)
  rwa [h.cast] at this
theorem spot_p (p a b : Int) (s : Sp) (w : World) (h : Crv p a b) :
    Calls Try.prog 16 #[.agg #[.int .i64 p, .int .i64 a, .int .i64 b], .agg #[.int .i64 s.x, .int .i64 s.y, .bool s.far]] w fun e w' => e = .returned (.bool (onB p.toNat a b s)) ∧ Below w.heap.size w w' := by
  have := ref_Spot p.toNat a b s w (by have := h.p5; omega) (by have := h.p1; omega) h.a0 (by rw [h.cast]; exact h.a1) h.b0 (by rw [h.cast]; exact h.b1)
  rwa [h.cast] at this
theorem add_p (p a b : Int) (s t : Sp) (w : World) (h : Crv p a b) (hs : OnC p.toNat a b s) (ht : OnC p.toNat a b t) :
    Calls Try.prog 17 #[.agg #[.int .i64 p, .int .i64 a, .int .i64 b], .agg #[.int .i64 s.x, .int .i64 s.y, .bool s.far], .agg #[.int .i64 t.x, .int .i64 t.y, .bool t.far]] w fun e w' => e = .returned (.agg #[.int .i64 (addS p.toNat a s t).x, .int .i64 (addS p.toNat a s t).y, .bool (addS p.toNat a s t).far]) ∧ Below w.heap.size w w' := by
  have := curve_add p.toNat a b s t w h.pr (by have := h.p5; omega) (by have := h.p1; omega) h.a0 (by rw [h.cast]; exact h.a1) hs ht
  rwa [h.cast] at this
theorem neg_p (p a b : Int) (s : Sp) (w : World) (h : Crv p a b) (hs : OnC p.toNat a b s) :
    Calls Try.prog 18 #[.agg #[.int .i64 p, .int .i64 a, .int .i64 b], .agg #[.int .i64 s.x, .int .i64 s.y, .bool s.far]] w fun e w' => e = .returned (.agg #[.int .i64 (negS p.toNat s).x, .int .i64 (negS p.toNat s).y, .bool (negS p.toNat s).far]) ∧ Below w.heap.size w w' := by
  have hy : 0 ≤ s.y ∧ s.y < (p.toNat : Int) := by
    have := h.p5; have := h.cast
    rcases hs with ⟨_, _, h3⟩ | ⟨_, _, _, h5, h6, _⟩
    · omega
    · exact ⟨h5, h6⟩
  have := curve_neg p.toNat a b s w (by have := h.p5; omega) (by have := h.p1; omega) hy.1 hy.2
  rwa [h.cast] at this
/-- what is wrong with spots -/
noncomputable def spE (p a b : Int) (l : List Sp) : Int := if cvE p a b = 0 then (if spB p a b l = true then 0 else 4) else cvE p a b
theorem spE_zero {p a b : Int} {l : List Sp} (h : spE p a b l = 0) : Crv p a b ∧ ∀ s ∈ l, OnC p.toNat a b s := by
  unfold spE at h
  by_cases e : cvE p a b = 0
  · rw [if_pos e] at h
    by_cases f : spB p a b l = true
    · exact ⟨cvE_zero e, spB_all f⟩
    · rw [if_neg f] at h; omega
  · rw [if_neg e] at h; exact absurd h e
theorem spE_cv {p a b : Int} {l : List Sp} (h : spE p a b l = 0) : cvE p a b = 0 := by
  unfold spE at h
  by_cases e : cvE p a b = 0
  · exact e
  · rw [if_neg e] at h; exact h
theorem spE_of {p a b : Int} {l : List Sp} (h : cvE p a b = 0) (hl : ∀ s ∈ l, OnC p.toNat a b s) : spE p a b l = 0 := by
  unfold spE; rw [if_pos h, if_pos (spB_of hl)]
def KeptR (W : World) (b : Nat) : Prop := W.cell? ⟨b, 0, none⟩ = some (.int .i64 0) ∧ W.cell? ⟨b, 1, none⟩ = some (.int .i64 0) ∧ W.cell? ⟨b, 2, none⟩ = some (.int .i64 0) ∧ W.frozen? ⟨b, 0, none⟩ = false ∧ W.frozen? ⟨b, 1, none⟩ = false ∧ W.frozen? ⟨b, 2, none⟩ = false
theorem KeptR.below {W W' : World} {b : Nat} (h : KeptR W b) (hb : Below W.heap.size W W') (hl : b < W.heap.size) : KeptR W' b :=
  ⟨kept hb h.1 hl, kept hb h.2.1 hl, kept hb h.2.2.1 hl, (froz hb hl).trans h.2.2.2.1, (froz hb hl).trans h.2.2.2.2.1, (froz hb hl).trans h.2.2.2.2.2⟩
theorem RowS.below_any {W W' : World} {a : Option Addr} {l : List Sp} (h : RowS W a l) (hb : Below W.heap.size W W') : RowS W' a l := h.below hb
set_option maxHeartbeats 1600000 in
theorem curve_spots_bad (p a b : Int) (ap : Option Addr) (cp : Nat) (l : List Sp) (w : World) (hr : RowS w ap l) (l1 : l.length ≤ 8) (h : ¬ cvE p a b = 0) :
    Calls Try.prog 12 #[.agg #[.int .i64 p, .int .i64 a, .int .i64 b], .slice ap l.length cp] w fun e w' => e = .returned (.tuple #[.agg #[.int .i64 0, .int .i64 0, .int .i64 0], .int .i64 (cvE p a b)]) ∧ Below w.heap.size w w' := by
  obtain ⟨x, hx⟩ : ∃ x, cvE p a b = x := ⟨_, rfl⟩
  have HC := Lib.hid fun w => curve_Check p a b w
  rw [hx] at h HC ⊢
  clear hx
  have e1 : (x == 0) = false := by simpa using h
  have e2 : (x != 0) = true := by simpa using h
  go_enter Try.func12, Try.ntmps12
  go_wp2_with fail
  refine (HC.out _).mono ?_
  rintro e w1 ⟨rfl, hb1⟩
  have z1 := hb1.size
  simp at z1
  have k0 := kept hb1 (b := w.heap.size) (o := 0) (v := .int .i64 p) (by simp [go_sem]) (by simp [go_sem] <;> omega)
  have k1 := kept hb1 (b := w.heap.size) (o := 1) (v := .int .i64 a) (by simp [go_sem]) (by simp [go_sem] <;> omega)
  have k2 := kept hb1 (b := w.heap.size) (o := 2) (v := .int .i64 b) (by simp [go_sem]) (by simp [go_sem] <;> omega)
  have KR : KeptR w1 (w.heap.size + 1) := KeptR.below (W := (w.alloc (.cells #[.int .i64 p, .int .i64 a, .int .i64 b] 23)).alloc (.cells #[.int .i64 0, .int .i64 0, .int .i64 0] 39)) ⟨by simp [go_sem], by simp [go_sem], by simp [go_sem], by simp [go_sem], by simp [go_sem], by simp [go_sem]⟩ hb1 (by simp [go_sem] <;> omega)
  have hbw := below_two (((Below.refl _ _).alloc (Nat.le_refl _) _).alloc (by simp) _) hb1
  obtain ⟨r0, r1, r2, f0, f1, f2⟩ := KR
  go_wp2
  refine bodyPost_ret (v := .tuple #[.agg #[.int .i64 0, .int .i64 0, .int .i64 0], .int .i64 x]) ?_ rfl ?_
  · simp [results, Try.results12, go_sem, r0, r1, r2]
  · exact ⟨rfl, (((hbw).setCell (by simp <;> omega) _).setCell (by simp <;> omega) _).setCell (by simp <;> omega) _⟩
set_option maxHeartbeats 3200000 in
theorem curve_spots_go (p a b : Int) (ap : Option Addr) (cp : Nat) (l : List Sp) (w : World) (hr : RowS w ap l) (l1 : l.length ≤ 8) (h : cvE p a b = 0) :
    Calls Try.prog 12 #[.agg #[.int .i64 p, .int .i64 a, .int .i64 b], .slice ap l.length cp] w fun e w' => e = .returned (.tuple #[.agg #[.int .i64 (if spB p a b l = true then p else 0), .int .i64 (if spB p a b l = true then a else 0), .int .i64 (if spB p a b l = true then b else 0)], .int .i64 (if spB p a b l = true then 0 else 4)]) ∧ Below w.heap.size w w' := by
  have HG := Lib.hid (cvE_zero h)
  have HC := Lib.hid fun w => curve_Check p a b w
  rw [h] at HC
  clear h
  have HB1 := Lib.hid (@spB_no p a b l)
  have HB2 := Lib.hid (@spB_yes p a b l)
  obtain ⟨B, hB⟩ : ∃ B, spB p a b l = B := ⟨_, rfl⟩
  rw [hB] at HB1 HB2 ⊢
  clear hB
  go_enter Try.func12, Try.ntmps12
  go_wp2_with fail
  refine (HC.out _).mono ?_
  rintro e w1 ⟨rfl, hb1⟩
  have z1 := hb1.size
  simp at z1
  have k0 := kept hb1 (b := w.heap.size) (o := 0) (v := .int .i64 p) (by simp [go_sem]) (by simp [go_sem] <;> omega)
  have k1 := kept hb1 (b := w.heap.size) (o := 1) (v := .int .i64 a) (by simp [go_sem]) (by simp [go_sem] <;> omega)
  have k2 := kept hb1 (b := w.heap.size) (o := 2) (v := .int .i64 b) (by simp [go_sem]) (by simp [go_sem] <;> omega)
  have KR : KeptR w1 (w.heap.size + 1) := KeptR.below (W := (w.alloc (.cells #[.int .i64 p, .int .i64 a, .int .i64 b] 23)).alloc (.cells #[.int .i64 0, .int .i64 0, .int .i64 0] 39)) ⟨by simp [go_sem], by simp [go_sem], by simp [go_sem], by simp [go_sem], by simp [go_sem], by simp [go_sem]⟩ hb1 (by simp [go_sem] <;> omega)
  have hbw := below_two (((Below.refl _ _).alloc (Nat.le_refl _) _).alloc (by simp) _) hb1
  have hrw := hr.below_any hbw
  clear hr hb1
  obtain ⟨L, hL⟩ : ∃ L, L = l.length := ⟨_, rfl⟩
  rw [← hL] at l1 ⊢
  have HL := Lib.hid hL
  clear hL
  have HRW := Lib.hid hrw
  clear hrw
  go_wp2
  go_loopw [17] (fun i wr => ∃ I : Nat, i = .int .i64 I ∧ I ≤ L ∧ Below w1.heap.size w1 wr ∧ Hid (∀ (j : Nat) (s : Sp), j < I → l[j]? = some s → onB p.toNat a b s = true)) (fun i _ => L - (intOf i).toNat)
  case atStart => exact ⟨0, rfl, by omega, Below.refl _ _, Lib.hid fun j s hj => absurd hj (Nat.not_lt_zero _)⟩
  case round =>
    obtain ⟨I, rfl, hi, hb, HP⟩ := hrel
    replace k0 := kept hb k0 (by omega)
    replace k1 := kept hb k1 (by omega)
    replace k2 := kept hb k2 (by omega)
    replace KR := KR.below hb (by omega)
    have zr := hb.size
    by_cases hlt : I < L
    · obtain ⟨s, hs⟩ : ∃ s, l[I]? = some s := ⟨_, List.getElem?_eq_getElem (by rw [← HL.out]; exact hlt)⟩
      obtain ⟨b', o, rfl, c2, c3, c4, c5⟩ := (HRW.out.below hb) I s hs
      have HS := Lib.hid hs
      clear hs
      have HH := Lib.hid fun w => has_p p a b s w HG.out
      have HV : Hid (onB p.toNat a b s = onB p.toNat a b s) := Lib.hid rfl
      obtain ⟨v, hv⟩ : ∃ v, onB p.toNat a b s = v := ⟨_, rfl⟩
      rw [hv] at HH
      replace HV := Lib.hid hv
      clear hv
      have ne1 : ¬ w.heap.size = wr.heap.size := by omega
      have ne2 : ¬ wr.heap.size = w.heap.size := by omega
      have kw0 := kept ((Below.refl wr.heap.size wr).alloc (Nat.le_refl _) (.cells #[.int .i64 s.x, .int .i64 s.y, .bool s.far] 30)) k0 (by omega)
      have kw1 := kept ((Below.refl wr.heap.size wr).alloc (Nat.le_refl _) (.cells #[.int .i64 s.x, .int .i64 s.y, .bool s.far] 30)) k1 (by omega)
      have kw2 := kept ((Below.refl wr.heap.size wr).alloc (Nat.le_refl _) (.cells #[.int .i64 s.x, .int .i64 s.y, .bool s.far] 30)) k2 (by omega)
      have i1 : (0 : Int) ≤ I := by omega
      have i2 : (I : Int) < L := by omega
      cases v with
      | true =>
        go_wp2_with fail
        refine (HH.out _).mono ?_
        rintro e w5 ⟨rfl, hb5⟩
        go_wp2
        go_roundw
        case rel =>
          refine ⟨I + 1, by go_num, by omega, below_two hb (below_two ((Below.refl _ _).alloc (Nat.le_refl _) _) hb5), Lib.hid fun j t hj ht => ?_⟩
          by_cases e : j = I
          · subst e; rw [HS.out] at ht; cases ht; exact HV.out
          · exact HP.out j t (by omega) ht
        case measure => simp [intOf]; omega
      | false =>
        obtain rfl := HB1.out _ _ HS.out HV.out
        go_wp2_with fail
        refine (HH.out _).mono ?_
        rintro e w5 ⟨rfl, hb5⟩
        have z5 := hb5.size
        simp at z5
        have KS := KeptR.below (KeptR.below KR ((Below.refl wr.heap.size wr).alloc (Nat.le_refl _) (.cells #[.int .i64 s.x, .int .i64 s.y, .bool s.far] 30)) (by omega)) hb5 (by simp <;> omega)
        obtain ⟨r0, r1, r2, f0, f1, f2⟩ := KS
        have hbz := below_two hbw (below_two hb (below_two ((Below.refl _ _).alloc (Nat.le_refl _) _) hb5))
        go_wp2
        refine bodyPost_ret (v := .tuple #[.agg #[.int .i64 0, .int .i64 0, .int .i64 0], .int .i64 4]) ?_ rfl ?_
        · simp [results, Try.results12, go_sem, r0, r1, r2]
        · exact ⟨rfl, (((hbz).setCell (by simp <;> omega) _).setCell (by simp <;> omega) _).setCell (by simp <;> omega) _⟩
    · obtain rfl := HB2.out fun i s h => HP.out i s (by
        have := (List.getElem?_eq_some_iff.1 h).1
        have := HL.out
        omega) h
      obtain ⟨r0, r1, r2, f0, f1, f2⟩ := KR
      have hbz := below_two hbw hb
      go_wp2
      refine bodyPost_ret (v := .tuple #[.agg #[.int .i64 p, .int .i64 a, .int .i64 b], .int .i64 0]) ?_ rfl ?_
      · simp [results, Try.results12, go_sem, r0, r1, r2]
      · exact ⟨rfl, (((hbz).setCell (by simp <;> omega) _).setCell (by simp <;> omega) _).setCell (by simp <;> omega) _⟩
/-- what spots finds -/
theorem spots_ok (p a b : Int) (ap : Option Addr) (cp : Nat) (l : List Sp) (w : World) (hr : RowS w ap l) (l1 : l.length ≤ 8) (h : spE p a b l = 0) :
    Calls Try.prog 12 #[.agg #[.int .i64 p, .int .i64 a, .int .i64 b], .slice ap l.length cp] w fun e w' => e = .returned (.tuple #[.agg #[.int .i64 p, .int .i64 a, .int .i64 b], .int .i64 0]) ∧ Below w.heap.size w w' := by
  unfold spE at h
  by_cases e : cvE p a b = 0
  · rw [if_pos e] at h
    by_cases f : spB p a b l = true
    · have := curve_spots_go p a b ap cp l w hr l1 e
      simp only [if_pos f] at this
      exact this
    · rw [if_neg f] at h; omega
  · rw [if_neg e] at h; exact absurd h e
theorem spots_no (p a b : Int) (ap : Option Addr) (cp : Nat) (l : List Sp) (w : World) (hr : RowS w ap l) (l1 : l.length ≤ 8) (h : ¬ spE p a b l = 0) :
    Calls Try.prog 12 #[.agg #[.int .i64 p, .int .i64 a, .int .i64 b], .slice ap l.length cp] w fun e w' => e = .returned (.tuple #[.agg #[.int .i64 0, .int .i64 0, .int .i64 0], .int .i64 (spE p a b l)]) ∧ Below w.heap.size w w' := by
  by_cases e : cvE p a b = 0
  · by_cases f : spB p a b l = true
    · exact absurd (by unfold spE; rw [if_pos e, if_pos f]) h
    · have := curve_spots_go p a b ap cp l w hr l1 e
      have e2 : spE p a b l = 4 := by unfold spE; rw [if_pos e, if_neg f]
      simp only [if_neg f] at this
      rw [e2]; exact this
  · have e2 : spE p a b l = cvE p a b := by unfold spE; rw [if_neg e]
    rw [e2]; exact curve_spots_bad p a b ap cp l w hr l1 e
set_option maxHeartbeats 1600000 in
theorem keep_spots_bad (p a b : Int) (ap : Option Addr) (cp : Nat) (l : List Sp) (w : World) (h : ¬ cvE p a b = 0) :
    Calls Try.prog 8 #[.agg #[.int .i64 p, .int .i64 a, .int .i64 b], .slice ap l.length cp] w fun e w' => e = .returned (.bool false) ∧ Below w.heap.size w w' := by
  obtain ⟨x, hx⟩ : ∃ x, cvE p a b = x := ⟨_, rfl⟩
  have HC := Lib.hid fun w => ref_CurveCheck p a b w
  rw [hx] at h HC
  clear hx
  have e1 : (x == 0) = false := by simpa using h
  have e2 : (x != 0) = true := by simpa using h
  go_enter Try.func8, Try.ntmps8
  go_wp2_with fail
  refine (HC.out _).mono ?_
  rintro e w1 ⟨rfl, hb1⟩
  go_wp2
  go_ret
  exact ⟨rfl, below_two ((Below.refl _ _).alloc (Nat.le_refl _) _) hb1⟩
set_option maxHeartbeats 3200000 in
theorem keep_spots_go (p a b : Int) (ap : Option Addr) (cp : Nat) (l : List Sp) (w : World) (hr : RowS w ap l) (l1 : l.length ≤ 8) (h : cvE p a b = 0) :
    Calls Try.prog 8 #[.agg #[.int .i64 p, .int .i64 a, .int .i64 b], .slice ap l.length cp] w fun e w' => e = .returned (.bool (spB p a b l)) ∧ Below w.heap.size w w' := by
  have HG := Lib.hid (cvE_zero h)
  have HC := Lib.hid fun w => ref_CurveCheck p a b w
  rw [h] at HC
  clear h
  have HB1 := Lib.hid (@spB_no p a b l)
  have HB2 := Lib.hid (@spB_yes p a b l)
  obtain ⟨B, hB⟩ : ∃ B, spB p a b l = B := ⟨_, rfl⟩
  rw [hB] at HB1 HB2 ⊢
  clear hB
  go_enter Try.func8, Try.ntmps8
  go_wp2_with fail
  refine (HC.out _).mono ?_
  rintro e w1 ⟨rfl, hb1⟩
  have z1 := hb1.size
  simp at z1
  have k0 := kept hb1 (b := w.heap.size) (o := 0) (v := .int .i64 p) (by simp [go_sem]) (by simp [go_sem] <;> omega)
  have k1 := kept hb1 (b := w.heap.size) (o := 1) (v := .int .i64 a) (by simp [go_sem]) (by simp [go_sem] <;> omega)
  have k2 := kept hb1 (b := w.heap.size) (o := 2) (v := .int .i64 b) (by simp [go_sem]) (by simp [go_sem] <;> omega)
  have hbw := below_two ((Below.refl _ _).alloc (Nat.le_refl _) _) hb1
  have hrw := hr.below_any hbw
  clear hr hb1
  obtain ⟨L, hL⟩ : ∃ L, L = l.length := ⟨_, rfl⟩
  rw [← hL] at l1 ⊢
  have HL := Lib.hid hL
  clear hL
  have HRW := Lib.hid hrw
  clear hrw
  go_wp2
  go_loopw [12] (fun i wr => ∃ I : Nat, i = .int .i64 I ∧ I ≤ L ∧ Below w1.heap.size w1 wr ∧ Hid (∀ (j : Nat) (s : Sp), j < I → l[j]? = some s → onB p.toNat a b s = true)) (fun i _ => L - (intOf i).toNat)
  case atStart => exact ⟨0, rfl, by omega, Below.refl _ _, Lib.hid fun j s hj => absurd hj (Nat.not_lt_zero _)⟩
  case round =>
    obtain ⟨I, rfl, hi, hb, HP⟩ := hrel
    replace k0 := kept hb k0 (by omega)
    replace k1 := kept hb k1 (by omega)
    replace k2 := kept hb k2 (by omega)
    have zr := hb.size
    by_cases hlt : I < L
    · obtain ⟨s, hs⟩ : ∃ s, l[I]? = some s := ⟨_, List.getElem?_eq_getElem (by rw [← HL.out]; exact hlt)⟩
      obtain ⟨b', o, rfl, c2, c3, c4, c5⟩ := (HRW.out.below hb) I s hs
      have HS := Lib.hid hs
      clear hs
      have HH := Lib.hid fun w => spot_p p a b s w HG.out
      obtain ⟨v, hv⟩ : ∃ v, onB p.toNat a b s = v := ⟨_, rfl⟩
      rw [hv] at HH
      have HV := Lib.hid hv
      clear hv
      have ne1 : ¬ w.heap.size = wr.heap.size := by omega
      have ne2 : ¬ wr.heap.size = w.heap.size := by omega
      have kw0 := kept ((Below.refl wr.heap.size wr).alloc (Nat.le_refl _) (.cells #[.int .i64 s.x, .int .i64 s.y, .bool s.far] 30)) k0 (by omega)
      have kw1 := kept ((Below.refl wr.heap.size wr).alloc (Nat.le_refl _) (.cells #[.int .i64 s.x, .int .i64 s.y, .bool s.far] 30)) k1 (by omega)
      have kw2 := kept ((Below.refl wr.heap.size wr).alloc (Nat.le_refl _) (.cells #[.int .i64 s.x, .int .i64 s.y, .bool s.far] 30)) k2 (by omega)
      have i1 : (0 : Int) ≤ I := by omega
      have i2 : (I : Int) < L := by omega
      cases v with
      | true =>
        go_wp2_with fail
        refine (HH.out _).mono ?_
        rintro e w5 ⟨rfl, hb5⟩
        go_wp2
        go_roundw
        case rel =>
          refine ⟨I + 1, by go_num, by omega, below_two hb (below_two ((Below.refl _ _).alloc (Nat.le_refl _) _) hb5), Lib.hid fun j t hj ht => ?_⟩
          by_cases e : j = I
          · subst e; rw [HS.out] at ht; cases ht; exact HV.out
          · exact HP.out j t (by omega) ht
        case measure => simp [intOf]; omega
      | false =>
        obtain rfl := HB1.out _ _ HS.out HV.out
        go_wp2_with fail
        refine (HH.out _).mono ?_
        rintro e w5 ⟨rfl, hb5⟩
        go_wp2
        go_ret
        exact ⟨rfl, below_two hbw (below_two hb (below_two ((Below.refl _ _).alloc (Nat.le_refl _) _) hb5))⟩
    · obtain rfl := HB2.out fun i s h => HP.out i s (by
        have := (List.getElem?_eq_some_iff.1 h).1
        have := HL.out
        omega) h
      go_wp2
      go_ret
      exact ⟨rfl, below_two hbw hb⟩
theorem keep_spots (p a b : Int) (ap : Option Addr) (cp : Nat) (l : List Sp) (w : World) (hr : RowS w ap l) (l1 : l.length ≤ 8) :
    Calls Try.prog 8 #[.agg #[.int .i64 p, .int .i64 a, .int .i64 b], .slice ap l.length cp] w fun e w' => e = .returned (.bool (spE p a b l == 0)) ∧ Below w.heap.size w w' := by
  unfold spE
  by_cases e : cvE p a b = 0
  · have := keep_spots_go p a b ap cp l w hr l1 e
    rw [if_pos e]
    by_cases f : spB p a b l = true
    · rw [f] at this; rw [if_pos f]; exact this
    · rw [if_neg f]; simp only [Bool.not_eq_true] at f; rw [f] at this; exact this
  · have := keep_spots_bad p a b ap cp l w e
    rw [if_neg e]
    rw [beq_eq_false_iff_ne.2 e]; exact this
set_option maxHeartbeats 1600000 in
theorem curve_Add (p a b : Int) (s t : Sp) (w : World) (h : spE p a b [s, t] = 0) :
    Calls Try.prog 9 #[.agg #[.int .i64 p, .int .i64 a, .int .i64 b], .agg #[.int .i64 s.x, .int .i64 s.y, .bool s.far], .agg #[.int .i64 t.x, .int .i64 t.y, .bool t.far]] w fun e w' => e = .returned (.tuple #[.agg #[.int .i64 (addS p.toNat a s t).x, .int .i64 (addS p.toNat a s t).y, .bool (addS p.toNat a s t).far], .int .i64 0]) ∧ Below w.heap.size w w' := by
  have HS := Lib.hid h
  have HC := Lib.hid (spE_zero h)
  clear h
  go_enter Try.func9, Try.ntmps9
  go_wp2_with fail
  refine (spots_ok p a b _ 2 [s, t] _ ?r1 (by simp) HS.out).mono ?_
  case r1 => exact RowS.two (by simp [go_sem]) (by simp [go_sem]) (by simp [go_sem]) (by simp [go_sem]) (by simp [go_sem]) (by simp [go_sem]) (by simp [go_sem] <;> omega)
  rintro e w1 ⟨rfl, hb1⟩
  have z1 := hb1.size
  simp at z1
  have s0 := kept hb1 (b := w.heap.size + 1) (o := 0) (v := .int .i64 s.x) (by simp [go_sem]) (by simp [go_sem] <;> omega)
  have s1 := kept hb1 (b := w.heap.size + 1) (o := 1) (v := .int .i64 s.y) (by simp [go_sem]) (by simp [go_sem] <;> omega)
  have s2 := kept hb1 (b := w.heap.size + 1) (o := 2) (v := .bool s.far) (by simp [go_sem]) (by simp [go_sem] <;> omega)
  have t0 := kept hb1 (b := w.heap.size + 1 + 1) (o := 0) (v := .int .i64 t.x) (by simp [go_sem]) (by simp [go_sem] <;> omega)
  have t1 := kept hb1 (b := w.heap.size + 1 + 1) (o := 1) (v := .int .i64 t.y) (by simp [go_sem]) (by simp [go_sem] <;> omega)
  have t2 := kept hb1 (b := w.heap.size + 1 + 1) (o := 2) (v := .bool t.far) (by simp [go_sem]) (by simp [go_sem] <;> omega)
  have r0 := kept hb1 (b := w.heap.size + 1 + 1 + 1) (o := 0) (v := .int .i64 0) (by simp [go_sem]) (by simp [go_sem] <;> omega)
  have r1 := kept hb1 (b := w.heap.size + 1 + 1 + 1) (o := 1) (v := .int .i64 0) (by simp [go_sem]) (by simp [go_sem] <;> omega)
  have r2 := kept hb1 (b := w.heap.size + 1 + 1 + 1) (o := 2) (v := .bool false) (by simp [go_sem]) (by simp [go_sem] <;> omega)
  have f0 := (froz hb1 (b := w.heap.size + 1 + 1 + 1) (o := 0) (by simp [go_sem] <;> omega)).trans (show _ = false by simp [go_sem])
  have f1 := (froz hb1 (b := w.heap.size + 1 + 1 + 1) (o := 1) (by simp [go_sem] <;> omega)).trans (show _ = false by simp [go_sem])
  have f2 := (froz hb1 (b := w.heap.size + 1 + 1 + 1) (o := 2) (by simp [go_sem] <;> omega)).trans (show _ = false by simp [go_sem])
  have hbw := below_two ((((((Below.refl _ _).alloc (Nat.le_refl _) _).alloc (by simp <;> omega) _).alloc (by simp <;> omega) _).alloc (by simp <;> omega) _).alloc (by simp <;> omega) _) hb1
  clear hb1
  have hA0 : Below w1.heap.size w1 (w1.alloc (.cells #[.int .i64 p, .int .i64 a, .int .i64 b] 39)) := (Below.refl _ _).alloc (Nat.le_refl _) _
  have xs0 := kept hA0 s0 (by omega)
  have xs1 := kept hA0 s1 (by omega)
  have xs2 := kept hA0 s2 (by omega)
  have xt0 := kept hA0 t0 (by omega)
  have xt1 := kept hA0 t1 (by omega)
  have xt2 := kept hA0 t2 (by omega)
  have xr0 := kept hA0 r0 (by omega)
  have xr1 := kept hA0 r1 (by omega)
  have xr2 := kept hA0 r2 (by omega)
  have xf0 := (froz hA0 (b := w.heap.size + 1 + 1 + 1) (o := 0) (by omega)).trans f0
  have xf1 := (froz hA0 (b := w.heap.size + 1 + 1 + 1) (o := 1) (by omega)).trans f1
  have xf2 := (froz hA0 (b := w.heap.size + 1 + 1 + 1) (o := 2) (by omega)).trans f2
  go_wp2_with fail
  refine (add_p p a b s t _ HC.out.1 (HC.out.2 s (by simp)) (HC.out.2 t (by simp))).mono ?_
  rintro e w2 ⟨rfl, hb2⟩
  have z2 := hb2.size
  simp at z2
  have hA : Below w1.heap.size w1 (w1.alloc (.cells #[.int .i64 p, .int .i64 a, .int .i64 b] 39)) := (Below.refl _ _).alloc (Nat.le_refl _) _
  replace r0 := kept (below_two hA hb2) r0 (by omega)
  replace r1 := kept (below_two hA hb2) r1 (by omega)
  replace r2 := kept (below_two hA hb2) r2 (by omega)
  replace f0 := (froz (below_two hA hb2) (b := w.heap.size + 1 + 1 + 1) (o := 0) (by omega)).trans f0
  replace f1 := (froz (below_two hA hb2) (b := w.heap.size + 1 + 1 + 1) (o := 1) (by omega)).trans f1
  replace f2 := (froz (below_two hA hb2) (b := w.heap.size + 1 + 1 + 1) (o := 2) (by omega)).trans f2
  have hbz := below_two hbw (below_two hA hb2)
  clear hb2 hA hbw
  go_wp2
  refine bodyPost_ret (v := .tuple #[.agg #[.int .i64 (addS p.toNat a s t).x, .int .i64 (addS p.toNat a s t).y, .bool (addS p.toNat a s t).far], .int .i64 0]) ?_ rfl ?_
  · simp [results, Try.results9, go_sem, r0, r1, r2]
  · exact ⟨rfl, (((hbz).setCell (by simp <;> omega) _).setCell (by simp <;> omega) _).setCell (by simp <;> omega) _⟩
set_option maxHeartbeats 1600000 in
theorem curve_Add_no (p a b : Int) (s t : Sp) (w : World) (h : ¬ spE p a b [s, t] = 0) :
    Calls Try.prog 9 #[.agg #[.int .i64 p, .int .i64 a, .int .i64 b], .agg #[.int .i64 s.x, .int .i64 s.y, .bool s.far], .agg #[.int .i64 t.x, .int .i64 t.y, .bool t.far]] w fun e w' => e = .returned (.tuple #[.agg #[.int .i64 0, .int .i64 0, .bool false], .int .i64 (spE p a b [s, t])]) ∧ Below w.heap.size w w' := by
  have HC := Lib.hid fun ap cp w hr => spots_no p a b ap cp [s, t] w hr (by simp) h
  obtain ⟨x, hx⟩ : ∃ x, spE p a b [s, t] = x := ⟨_, rfl⟩
  rw [hx] at h HC ⊢
  clear hx
  have e1 : (x == 0) = false := by simpa using h
  have e2 : (x != 0) = true := by simpa using h
  go_enter Try.func9, Try.ntmps9
  go_wp2_with fail
  refine (HC.out _ 2 _ ?r1).mono ?_
  case r1 => exact RowS.two (by simp [go_sem]) (by simp [go_sem]) (by simp [go_sem]) (by simp [go_sem]) (by simp [go_sem]) (by simp [go_sem]) (by simp [go_sem] <;> omega)
  rintro e w1 ⟨rfl, hb1⟩
  have z1 := hb1.size
  simp at z1
  have s0 := kept hb1 (b := w.heap.size + 1) (o := 0) (v := .int .i64 s.x) (by simp [go_sem]) (by simp [go_sem] <;> omega)
  have s1 := kept hb1 (b := w.heap.size + 1) (o := 1) (v := .int .i64 s.y) (by simp [go_sem]) (by simp [go_sem] <;> omega)
  have s2 := kept hb1 (b := w.heap.size + 1) (o := 2) (v := .bool s.far) (by simp [go_sem]) (by simp [go_sem] <;> omega)
  have t0 := kept hb1 (b := w.heap.size + 1 + 1) (o := 0) (v := .int .i64 t.x) (by simp [go_sem]) (by simp [go_sem] <;> omega)
  have t1 := kept hb1 (b := w.heap.size + 1 + 1) (o := 1) (v := .int .i64 t.y) (by simp [go_sem]) (by simp [go_sem] <;> omega)
  have t2 := kept hb1 (b := w.heap.size + 1 + 1) (o := 2) (v := .bool t.far) (by simp [go_sem]) (by simp [go_sem] <;> omega)
  have r0 := kept hb1 (b := w.heap.size + 1 + 1 + 1) (o := 0) (v := .int .i64 0) (by simp [go_sem]) (by simp [go_sem] <;> omega)
  have r1 := kept hb1 (b := w.heap.size + 1 + 1 + 1) (o := 1) (v := .int .i64 0) (by simp [go_sem]) (by simp [go_sem] <;> omega)
  have r2 := kept hb1 (b := w.heap.size + 1 + 1 + 1) (o := 2) (v := .bool false) (by simp [go_sem]) (by simp [go_sem] <;> omega)
  have f0 := (froz hb1 (b := w.heap.size + 1 + 1 + 1) (o := 0) (by simp [go_sem] <;> omega)).trans (show _ = false by simp [go_sem])
  have f1 := (froz hb1 (b := w.heap.size + 1 + 1 + 1) (o := 1) (by simp [go_sem] <;> omega)).trans (show _ = false by simp [go_sem])
  have f2 := (froz hb1 (b := w.heap.size + 1 + 1 + 1) (o := 2) (by simp [go_sem] <;> omega)).trans (show _ = false by simp [go_sem])
  have hbw := below_two ((((((Below.refl _ _).alloc (Nat.le_refl _) _).alloc (by simp <;> omega) _).alloc (by simp <;> omega) _).alloc (by simp <;> omega) _).alloc (by simp <;> omega) _) hb1
  clear hb1
  have hA0 : Below w1.heap.size w1 (w1.alloc (.cells #[.int .i64 0, .int .i64 0, .int .i64 0] 39)) := (Below.refl _ _).alloc (Nat.le_refl _) _
  have xs0 := kept hA0 s0 (by omega)
  have xs1 := kept hA0 s1 (by omega)
  have xs2 := kept hA0 s2 (by omega)
  have xt0 := kept hA0 t0 (by omega)
  have xt1 := kept hA0 t1 (by omega)
  have xt2 := kept hA0 t2 (by omega)
  have xr0 := kept hA0 r0 (by omega)
  have xr1 := kept hA0 r1 (by omega)
  have xr2 := kept hA0 r2 (by omega)
  have xf0 := (froz hA0 (b := w.heap.size + 1 + 1 + 1) (o := 0) (by omega)).trans f0
  have xf1 := (froz hA0 (b := w.heap.size + 1 + 1 + 1) (o := 1) (by omega)).trans f1
  have xf2 := (froz hA0 (b := w.heap.size + 1 + 1 + 1) (o := 2) (by omega)).trans f2
  have hbz := below_two hbw hA0
  clear hA0 hbw
  go_wp2
  refine bodyPost_ret (v := .tuple #[.agg #[.int .i64 0, .int .i64 0, .bool false], .int .i64 x]) ?_ rfl ?_
  · simp [results, Try.results9, go_sem, xr0, xr1, xr2]
  · exact ⟨rfl, (((hbz).setCell (by simp <;> omega) _).setCell (by simp <;> omega) _).setCell (by simp <;> omega) _⟩
set_option maxHeartbeats 1600000 in
theorem curve_Neg (p a b : Int) (s : Sp) (w : World) (h : spE p a b [s] = 0) :
    Calls Try.prog 10 #[.agg #[.int .i64 p, .int .i64 a, .int .i64 b], .agg #[.int .i64 s.x, .int .i64 s.y, .bool s.far]] w fun e w' => e = .returned (.tuple #[.agg #[.int .i64 (negS p.toNat s).x, .int .i64 (negS p.toNat s).y, .bool (negS p.toNat s).far], .int .i64 0]) ∧ Below w.heap.size w w' := by
  have HS := Lib.hid h
  have HC := Lib.hid (spE_zero h)
  clear h
  go_enter Try.func10, Try.ntmps10
  go_wp2_with fail
  refine (spots_ok p a b _ 1 [s] _ ?r1 (by simp) HS.out).mono ?_
  case r1 => exact RowS.one (by simp [go_sem]) (by simp [go_sem]) (by simp [go_sem]) (by simp [go_sem] <;> omega)
  rintro e w1 ⟨rfl, hb1⟩
  have z1 := hb1.size
  simp at z1
  have s0 := kept hb1 (b := w.heap.size + 1) (o := 0) (v := .int .i64 s.x) (by simp [go_sem]) (by simp [go_sem] <;> omega)
  have s1 := kept hb1 (b := w.heap.size + 1) (o := 1) (v := .int .i64 s.y) (by simp [go_sem]) (by simp [go_sem] <;> omega)
  have s2 := kept hb1 (b := w.heap.size + 1) (o := 2) (v := .bool s.far) (by simp [go_sem]) (by simp [go_sem] <;> omega)
  have r0 := kept hb1 (b := w.heap.size + 1 + 1) (o := 0) (v := .int .i64 0) (by simp [go_sem]) (by simp [go_sem] <;> omega)
  have r1 := kept hb1 (b := w.heap.size + 1 + 1) (o := 1) (v := .int .i64 0) (by simp [go_sem]) (by simp [go_sem] <;> omega)
  have r2 := kept hb1 (b := w.heap.size + 1 + 1) (o := 2) (v := .bool false) (by simp [go_sem]) (by simp [go_sem] <;> omega)
  have f0 := (froz hb1 (b := w.heap.size + 1 + 1) (o := 0) (by simp [go_sem] <;> omega)).trans (show _ = false by simp [go_sem])
  have f1 := (froz hb1 (b := w.heap.size + 1 + 1) (o := 1) (by simp [go_sem] <;> omega)).trans (show _ = false by simp [go_sem])
  have f2 := (froz hb1 (b := w.heap.size + 1 + 1) (o := 2) (by simp [go_sem] <;> omega)).trans (show _ = false by simp [go_sem])
  have hbw := below_two (((((Below.refl _ _).alloc (Nat.le_refl _) _).alloc (by simp <;> omega) _).alloc (by simp <;> omega) _).alloc (by simp <;> omega) _) hb1
  clear hb1
  have hA0 : Below w1.heap.size w1 (w1.alloc (.cells #[.int .i64 p, .int .i64 a, .int .i64 b] 39)) := (Below.refl _ _).alloc (Nat.le_refl _) _
  have xs0 := kept hA0 s0 (by omega)
  have xs1 := kept hA0 s1 (by omega)
  have xs2 := kept hA0 s2 (by omega)
  have xr0 := kept hA0 r0 (by omega)
  have xr1 := kept hA0 r1 (by omega)
  have xr2 := kept hA0 r2 (by omega)
  have xf0 := (froz hA0 (b := w.heap.size + 1 + 1) (o := 0) (by omega)).trans f0
  have xf1 := (froz hA0 (b := w.heap.size + 1 + 1) (o := 1) (by omega)).trans f1
  have xf2 := (froz hA0 (b := w.heap.size + 1 + 1) (o := 2) (by omega)).trans f2
  go_wp2_with fail
  refine (neg_p p a b s _ HC.out.1 (HC.out.2 s (by simp))).mono ?_
  rintro e w2 ⟨rfl, hb2⟩
  have z2 := hb2.size
  simp at z2
  have hA : Below w1.heap.size w1 (w1.alloc (.cells #[.int .i64 p, .int .i64 a, .int .i64 b] 39)) := (Below.refl _ _).alloc (Nat.le_refl _) _
  replace r0 := kept (below_two hA hb2) r0 (by omega)
  replace r1 := kept (below_two hA hb2) r1 (by omega)
  replace r2 := kept (below_two hA hb2) r2 (by omega)
  replace f0 := (froz (below_two hA hb2) (b := w.heap.size + 1 + 1) (o := 0) (by omega)).trans f0
  replace f1 := (froz (below_two hA hb2) (b := w.heap.size + 1 + 1) (o := 1) (by omega)).trans f1
  replace f2 := (froz (below_two hA hb2) (b := w.heap.size + 1 + 1) (o := 2) (by omega)).trans f2
  have hbz := below_two hbw (below_two hA hb2)
  clear hb2 hA hbw
  go_wp2
  refine bodyPost_ret (v := .tuple #[.agg #[.int .i64 (negS p.toNat s).x, .int .i64 (negS p.toNat s).y, .bool (negS p.toNat s).far], .int .i64 0]) ?_ rfl ?_
  · simp [results, Try.results10, go_sem, r0, r1, r2]
  · exact ⟨rfl, (((hbz).setCell (by simp <;> omega) _).setCell (by simp <;> omega) _).setCell (by simp <;> omega) _⟩
set_option maxHeartbeats 1600000 in
theorem curve_Neg_no (p a b : Int) (s : Sp) (w : World) (h : ¬ spE p a b [s] = 0) :
    Calls Try.prog 10 #[.agg #[.int .i64 p, .int .i64 a, .int .i64 b], .agg #[.int .i64 s.x, .int .i64 s.y, .bool s.far]] w fun e w' => e = .returned (.tuple #[.agg #[.int .i64 0, .int .i64 0, .bool false], .int .i64 (spE p a b [s])]) ∧ Below w.heap.size w w' := by
  have HC := Lib.hid fun ap cp w hr => spots_no p a b ap cp [s] w hr (by simp) h
  obtain ⟨x, hx⟩ : ∃ x, spE p a b [s] = x := ⟨_, rfl⟩
  rw [hx] at h HC ⊢
  clear hx
  have e1 : (x == 0) = false := by simpa using h
  have e2 : (x != 0) = true := by simpa using h
  go_enter Try.func10, Try.ntmps10
  go_wp2_with fail
  refine (HC.out _ 1 _ ?r1).mono ?_
  case r1 => exact RowS.one (by simp [go_sem]) (by simp [go_sem]) (by simp [go_sem]) (by simp [go_sem] <;> omega)
  rintro e w1 ⟨rfl, hb1⟩
  have z1 := hb1.size
  simp at z1
  have s0 := kept hb1 (b := w.heap.size + 1) (o := 0) (v := .int .i64 s.x) (by simp [go_sem]) (by simp [go_sem] <;> omega)
  have s1 := kept hb1 (b := w.heap.size + 1) (o := 1) (v := .int .i64 s.y) (by simp [go_sem]) (by simp [go_sem] <;> omega)
  have s2 := kept hb1 (b := w.heap.size + 1) (o := 2) (v := .bool s.far) (by simp [go_sem]) (by simp [go_sem] <;> omega)
  have r0 := kept hb1 (b := w.heap.size + 1 + 1) (o := 0) (v := .int .i64 0) (by simp [go_sem]) (by simp [go_sem] <;> omega)
  have r1 := kept hb1 (b := w.heap.size + 1 + 1) (o := 1) (v := .int .i64 0) (by simp [go_sem]) (by simp [go_sem] <;> omega)
  have r2 := kept hb1 (b := w.heap.size + 1 + 1) (o := 2) (v := .bool false) (by simp [go_sem]) (by simp [go_sem] <;> omega)
  have f0 := (froz hb1 (b := w.heap.size + 1 + 1) (o := 0) (by simp [go_sem] <;> omega)).trans (show _ = false by simp [go_sem])
  have f1 := (froz hb1 (b := w.heap.size + 1 + 1) (o := 1) (by simp [go_sem] <;> omega)).trans (show _ = false by simp [go_sem])
  have f2 := (froz hb1 (b := w.heap.size + 1 + 1) (o := 2) (by simp [go_sem] <;> omega)).trans (show _ = false by simp [go_sem])
  have hbw := below_two (((((Below.refl _ _).alloc (Nat.le_refl _) _).alloc (by simp <;> omega) _).alloc (by simp <;> omega) _).alloc (by simp <;> omega) _) hb1
  clear hb1
  have hA0 : Below w1.heap.size w1 (w1.alloc (.cells #[.int .i64 0, .int .i64 0, .int .i64 0] 39)) := (Below.refl _ _).alloc (Nat.le_refl _) _
  have xs0 := kept hA0 s0 (by omega)
  have xs1 := kept hA0 s1 (by omega)
  have xs2 := kept hA0 s2 (by omega)
  have xr0 := kept hA0 r0 (by omega)
  have xr1 := kept hA0 r1 (by omega)
  have xr2 := kept hA0 r2 (by omega)
  have xf0 := (froz hA0 (b := w.heap.size + 1 + 1) (o := 0) (by omega)).trans f0
  have xf1 := (froz hA0 (b := w.heap.size + 1 + 1) (o := 1) (by omega)).trans f1
  have xf2 := (froz hA0 (b := w.heap.size + 1 + 1) (o := 2) (by omega)).trans f2
  have hbz := below_two hbw hA0
  clear hA0 hbw
  go_wp2
  refine bodyPost_ret (v := .tuple #[.agg #[.int .i64 0, .int .i64 0, .bool false], .int .i64 x]) ?_ rfl ?_
  · simp [results, Try.results10, go_sem, xr0, xr1, xr2]
  · exact ⟨rfl, (((hbz).setCell (by simp <;> omega) _).setCell (by simp <;> omega) _).setCell (by simp <;> omega) _⟩
end Go.Proofs.Ytnheboamjfahaaa
