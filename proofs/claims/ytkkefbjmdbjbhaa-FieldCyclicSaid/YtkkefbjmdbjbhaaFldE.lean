/- The contracts of field.elements, Check. -/
import Derived.Test.YtkkefbjmdbjbhaaFldO
namespace Go.Proofs.Ytkkefbjmdbjbhaa
open Go.RowKit
set_option linter.unusedVariables false
set_option linter.unusedSimpArgs false
/-- not an element -/
def offB (p : Int) (f : List Int) (x : Int) : Bool := decide (x < 0 ∨ ((p.toNat ^ (f.length - 1) : Nat) : Int) ≤ x)
noncomputable def elE (p : Int) (f xs : List Int) : Int := if fldE p f ≠ 0 then fldE p f else if xs.any (offB p f) then 2 else 0
theorem elE_a {p : Int} {f xs : List Int} (h : fldE p f ≠ 0) : elE p f xs = fldE p f := by unfold elE; rw [if_pos h]
theorem elE_b {p : Int} {f xs : List Int} (h : fldE p f = 0) {j : Nat} {x : Int} (hx : xs[j]? = some x) (hb : offB p f x = true) : elE p f xs = 2 := by
  unfold elE; rw [if_neg (by simpa using h), if_pos (List.any_eq_true.2 ⟨x, List.mem_of_getElem? hx, hb⟩)]
theorem elE_c {p : Int} {f xs : List Int} (h : fldE p f = 0) (hg : ∀ (j : Nat) (x : Int), xs[j]? = some x → offB p f x = false) : elE p f xs = 0 := by
  have e : xs.any (offB p f) = false := by
    rw [List.any_eq_false]
    intro x hx
    obtain ⟨j, hj, rfl⟩ := List.mem_iff_getElem.1 hx
    simp [hg j _ (List.getElem?_eq_getElem hj)]
  unfold elE; rw [if_neg (by simpa using h), e]; rfl
theorem elE_zero {p : Int} {f xs : List Int} (h : elE p f xs = 0) : fldE p f = 0 ∧ ∀ x ∈ xs, 0 ≤ x ∧ x.toNat < p.toNat ^ (f.length - 1) ∧ x = (x.toNat : Int) := by
  unfold elE at h
  by_cases h0 : fldE p f = 0
  · rw [if_neg (by simpa using h0)] at h
    refine ⟨h0, fun x hx => ?_⟩
    by_cases hb : xs.any (offB p f) = true
    · rw [if_pos hb] at h; omega
    · have : ¬ offB p f x = true := fun e => hb (List.any_eq_true.2 ⟨x, hx, e⟩)
      unfold offB at this
      obtain ⟨S, hS⟩ : ∃ S, p.toNat ^ (f.length - 1) = S := ⟨_, rfl⟩
      rw [hS] at this ⊢
      simp at this
      omega
  · rw [if_pos h0] at h; exact absurd h h0
set_option maxRecDepth 100000 in
set_option maxHeartbeats 6400000 in
theorem field_elements (p : Int) (f xs : List Int) (af : Option Addr) (Lf cf : Nat) (ad : Option Addr) (n cd : Nat) (w : World) (hf : RowL w af cf f) (hLf : f.length = Lf) (hl : Lf ≤ maxLen) (hx : RowL w ad cd xs) (hn : xs.length = n) (hn2 : n ≤ 100) :
    Calls Try.prog 16 #[.int .i64 p, .slice af Lf cf, .slice ad n cd] w fun e w' => (∃ fv, e = .returned (.tuple #[fv, .int .i64 (elE p f xs)]) ∧ OpV p f af Lf cf (fldE p f) fv) ∧ Below w.heap.size w w' := by
  have HC := Lib.hid fun w h => field_open p f af Lf cf w h hLf hl
  have HF := Lib.hid hf
  have HX := Lib.hid hx
  have HN := Lib.hid hn
  unfold maxLen at hl
  obtain ⟨T, hT⟩ : ∃ T, elE p f xs = T := ⟨_, rfl⟩
  have HTa : Hid (fldE p f ≠ 0 → T = fldE p f) := Lib.hid fun h => hT ▸ elE_a h
  have HTb : Hid (fldE p f = 0 → ∀ (j : Nat) (x : Int), xs[j]? = some x → offB p f x = true → T = 2) := Lib.hid fun h j x h1 h2 => hT ▸ elE_b h h1 h2
  have HTc : Hid (fldE p f = 0 → (∀ (j : Nat) (x : Int), xs[j]? = some x → offB p f x = false) → T = 0) := Lib.hid fun h h1 => hT ▸ elE_c h h1
  have HOF : Hid (∀ x, offB p f x = decide (x < 0 ∨ ((p.toNat ^ (f.length - 1) : Nat) : Int) ≤ x)) := Lib.hid fun x => rfl
  have HFD := Lib.hid fun h => (fldE_zero (p := p) (f := f) h).2.2.2.1.small
  have HOP : Hid (∀ E fv, OpV p f af Lf cf E fv ↔ ∃ (x s : Int) (a : Option Addr) (L c : Nat), fv = .agg #[.int .i64 x, .int .i64 s, .slice a L c] ∧ (E = 0 → x = p ∧ s = ((p.toNat ^ (f.length - 1) : Nat) : Int) ∧ a = af ∧ L = Lf ∧ c = cf)) := Lib.hid fun E fv => by unfold OpV; rfl
  rw [hT]
  obtain ⟨E, hE⟩ : ∃ E, fldE p f = E := ⟨_, rfl⟩
  obtain ⟨S, hS⟩ : ∃ S, p.toNat ^ (f.length - 1) = S := ⟨_, rfl⟩
  rw [hE] at HTa HTb HTc HC HFD ⊢
  rw [hS] at HOP HFD HOF
  clear hf hT hE hS hx hn hLf
  go_enter Try.func16, Try.ntmps16
  go_wp2_with fail
  have F0 := FB.new w 0 0 none 0 0
  have hbw : Below w.heap.size w (w.alloc (.cells #[.int .i64 0, .int .i64 0, .slice none 0 0] 38)) := (Below.refl _ _).alloc (Nat.le_refl _) _
  obtain ⟨w1, hw1⟩ : ∃ W, W = w.alloc (.cells #[.int .i64 0, .int .i64 0, .slice none 0 0] 38) := ⟨_, rfl⟩
  rw [← hw1] at F0 hbw ⊢
  clear hw1
  obtain ⟨B, hB⟩ : ∃ B, w.heap.size = B := ⟨_, rfl⟩
  rw [hB] at F0 hbw ⊢
  refine (HC.out _ (HF.out.below (hB ▸ hbw) (Nat.le_refl _))).mono ?_
  rintro e w2 ⟨⟨fv, rfl, ho⟩, hb2⟩
  obtain ⟨x0, s0, a0, L0, c0, rfl, hfv⟩ := (HOP.out _ _).1 ho
  replace F0 := F0.below hb2
  replace hbw := hbw.trans (hb2.mono (hB ▸ hbw.size))
  have z2 : B < w2.heap.size := F0.lt
  have hne1 : ¬ w2.heap.size = B := by omega
  have hne2 : ¬ B = w2.heap.size := by omega
  clear hb2
  by_cases h0 : E = 0
  · obtain ⟨rfl, rfl, rfl, rfl, rfl⟩ := hfv h0
    subst h0
    replace HTb := Lib.hid (HTb.out rfl)
    replace HTc := Lib.hid (HTc.out rfl)
    replace HFD := Lib.hid (HFD.out rfl)
    have hS := HFD.out
    have HO0 := Lib.hid ho
    clear ho hfv HTa
    go_wp2_with fail
    obtain ⟨w3, hw3⟩ : ∃ W, W = w2.alloc (.cells #[.int .i64 x0, .int .i64 S, .slice a0 L0 c0] 38) := ⟨_, rfl⟩
    have F3 : FB w3 w2.heap.size x0 S a0 L0 c0 := by rw [hw3]; exact FB.new _ _ _ _ _ _
    have hA : Below w2.heap.size w2 w3 := by rw [hw3]; exact (Below.refl _ _).alloc (Nat.le_refl _) _
    replace F0 := F0.below hA
    replace hbw := hbw.trans (hA.mono (Nat.le_of_lt z2))
    have HX3 := Lib.hid (HX.out.below hbw (Nat.le_of_eq hB))
    rw [← hw3]
    clear hw3 hA
    obtain ⟨B3, hB3⟩ : ∃ B3, w2.heap.size = B3 := ⟨_, rfl⟩
    rw [hB3] at F3 z2 hne1 hne2 ⊢
    clear hB3
    go_loopw [24] (fun iv wr => ∃ I : Nat, iv = .int .i64 I ∧ I ≤ n ∧ Hid (∀ (j : Nat) (x : Int), j < I → xs[j]? = some x → offB x0 f x = false) ∧ ∃ q, wr = w3.drewN q) (fun iv _ => (n - intOf iv).toNat)
    case atStart => exact ⟨0, rfl, Nat.zero_le _, Lib.hid fun j x hj => absurd hj (Nat.not_lt_zero _), 0, rfl⟩
    case round =>
      obtain ⟨I, rfl, hI, HZ, q, rfl⟩ := hrel
      obtain ⟨w4, hw4⟩ : ∃ W, W = w3.drewN q := ⟨_, rfl⟩
      have hA : Below w3.heap.size w3 w4 := by rw [hw4]; exact below_drewN (Below.refl _ _) _
      have hAA := (hbw.trans (hA.mono (hB ▸ hbw.size)))
      have G0 := F0.below hA
      have G3 := F3.below hA
      obtain ⟨⟨c0', c1, c2⟩, f0, f1, f2⟩ := id G0
      obtain ⟨⟨d0, d1, d2⟩, e0, e1, e2⟩ := id G3
      have HX4 := Lib.hid (HX3.out.below hA (Nat.le_refl _))
      rw [← hw4]
      replace hw4 := Lib.hid hw4
      by_cases hlt : I < n
      · obtain ⟨x, hx⟩ : ∃ x, xs[I]? = some x := ⟨_, List.getElem?_eq_getElem (by rw [HN.out]; omega)⟩
        obtain ⟨b, o, rfl, hc⟩ := HX4.out.shape (by rw [HN.out]; omega)
        have kx := hc I x hx
        have HXI := Lib.hid hx
        clear hc hx
        by_cases hbad : x < 0 ∨ (S : Int) ≤ x
        · have HT := Lib.hid (HTb.out I x HXI.out (by rw [HOF.out]; exact decide_eq_true hbad))
          have F9 := G0.set3 x0 (S : Int) a0 L0 c0
          have hbz := Below.set3 hAA (Nat.le_refl _) (.int .i64 x0) (.int .i64 (S : Int)) (.slice a0 L0 c0)
          by_cases hneg : x < 0
          · clear hbad
            go_wp2
            refine bodyPost_ret (v := .tuple #[.agg #[.int .i64 x0, .int .i64 S, .slice a0 L0 c0], .int .i64 2]) ?_ rfl ?_
            · simp [results, Try.results16, go_sem, F9.1.1, F9.1.2.1, F9.1.2.2]
            · rw [HT.out]
              exact ⟨⟨_, rfl, HO0.out⟩, hB ▸ hbz⟩
          · have hbig : (S : Int) ≤ x := hbad.resolve_left hneg
            clear hbad
            go_wp2
            refine bodyPost_ret (v := .tuple #[.agg #[.int .i64 x0, .int .i64 S, .slice a0 L0 c0], .int .i64 2]) ?_ rfl ?_
            · simp [results, Try.results16, go_sem, F9.1.1, F9.1.2.1, F9.1.2.2]
            · rw [HT.out]
              exact ⟨⟨_, rfl, HO0.out⟩, hB ▸ hbz⟩
        · have HG : Hid (offB x0 f x = false) := Lib.hid (by rw [HOF.out]; exact decide_eq_false hbad)
          have g1 : ¬ x < 0 := fun e => hbad (.inl e)
          have g2 : ¬ (S : Int) ≤ x := fun e => hbad (.inr e)
          clear hbad
          go_wp2
          go_roundw
          case rel => exact ⟨I + 1, by go_num, hlt, Lib.hid fun j y hj hy => by
            by_cases e : j = I
            · subst e; rw [HXI.out] at hy; cases hy; exact HG.out
            · exact HZ.out j y (by omega) hy, by rw [hw4.out]; exact ⟨_, rfl⟩⟩
          case measure => simp [intOf]; omega
      · obtain rfl : I = n := by omega
        have HT := Lib.hid (HTc.out fun j x hj => HZ.out j x (by rw [← HN.out]; exact (List.getElem?_eq_some_iff.1 hj).1) hj)
        have F9 := G0.set3 x0 (S : Int) a0 L0 c0
        have hbz := Below.set3 hAA (Nat.le_refl _) (.int .i64 x0) (.int .i64 (S : Int)) (.slice a0 L0 c0)
        go_wp2
        refine bodyPost_ret (v := .tuple #[.agg #[.int .i64 x0, .int .i64 S, .slice a0 L0 c0], .int .i64 0]) ?_ rfl ?_
        · simp [results, Try.results16, go_sem, F9.1.1, F9.1.2.1, F9.1.2.2]
        · rw [HT.out]
          exact ⟨⟨_, rfl, HO0.out⟩, hB ▸ hbz⟩
  · have HT := Lib.hid (HTa.out h0)
    have e1 : (E == 0) = false := by simpa using h0
    have e2 : (E != 0) = true := by simpa using h0
    have HO0 := Lib.hid ho
    clear h0 ho hfv
    obtain ⟨⟨c0', c1, c2⟩, f0, f1, f2⟩ := id F0
    go_wp2
    have F9 := (F0.set3 x0 s0 a0 L0 c0).below (show Below _ _ ((((w2.setCell ⟨B, 0, none⟩ (.int .i64 x0)).setCell ⟨B, 1, none⟩ (.int .i64 s0)).setCell ⟨B, 2, none⟩ (.slice a0 L0 c0)).alloc (.cells #[.int .i64 x0, .int .i64 s0, .slice a0 L0 c0] 38)) from (Below.refl _ _).alloc (Nat.le_refl _) _)
    have hbz := (Below.set3 hbw (Nat.le_refl _) (.int .i64 x0) (.int .i64 s0) (.slice a0 L0 c0)).alloc (show B ≤ _ by simp; omega) (.cells #[.int .i64 x0, .int .i64 s0, .slice a0 L0 c0] 38)
    refine bodyPost_ret (v := .tuple #[.agg #[.int .i64 x0, .int .i64 s0, .slice a0 L0 c0], .int .i64 E]) ?_ rfl ?_
    · simp [results, Try.results16, go_sem, F9.1.1, F9.1.2.1, F9.1.2.2]
    · rw [HT.out]
      exact ⟨⟨_, rfl, HO0.out⟩, hB ▸ hbz⟩
end Go.Proofs.Ytkkefbjmdbjbhaa
