/- The contracts of lockwrightref.PolyCheck, lockwrightkeep.sound, lockwrightref.Longs, poly.both. -/
import Derived.Test.YtfgmnlphejpcaaaPolC
namespace Go.Proofs.Ytfgmnlphejpcaaa
open Go.RowKit
set_option linter.unusedVariables false
set_option linter.unusedSimpArgs false
theorem polyE_a {p : Int} {xs : List Int} (h : primeE p ≠ 0) : polyE p xs = primeE p := by unfold polyE; rw [if_pos h]
theorem polyE_b {p : Int} {xs : List Int} (h : primeE p = 0) (h2 : 13 < xs.length) : polyE p xs = 1 := by unfold polyE; rw [if_neg (by simpa using h), if_pos h2]
theorem polyE_bad {p : Int} {xs : List Int} (h : primeE p = 0) (h2 : ¬ 13 < xs.length) (j : Nat) (x : Int) (hx : xs[j]? = some x) (hb : badB p x = true) : polyE p xs = 4 := by
  unfold polyE; rw [if_neg (by simpa using h), if_neg h2, if_pos (.inl (List.any_eq_true.2 ⟨x, List.mem_of_getElem? hx, hb⟩))]
theorem polyE_end {p : Int} {xs : List Int} (h : primeE p = 0) (h2 : ¬ 13 < xs.length) (hg : ∀ (j : Nat) (x : Int), xs[j]? = some x → badB p x = false) : polyE p xs = if xs ≠ [] ∧ xs.getLastD 1 = 0 then 4 else 0 := by
  have e : xs.any (badB p) = false := by
    rw [List.any_eq_false]
    intro x hx
    obtain ⟨j, hj, rfl⟩ := List.mem_iff_getElem.1 hx
    simp [hg j _ (List.getElem?_eq_getElem hj)]
  unfold polyE; rw [if_neg (by simpa using h), if_neg h2, e]
  simp
theorem getLastD_at {xs : List Int} {L : Nat} {x : Int} (h : xs[L]? = some x) (hl : xs.length = L + 1) : xs.getLastD 1 = x := by
  rw [List.getLastD_eq_getLast?, List.getLast?_eq_getElem?, hl, Nat.add_sub_cancel, h]; rfl
set_option maxRecDepth 20000 in
set_option maxHeartbeats 3200000 in
theorem ref_PolyCheck (p : Int) (a : Option Addr) (c : Nat) (xs : List Int) (w : World) (h : RowL w a c xs) (hl : xs.length ≤ maxLen) :
    Calls Try.prog 36 #[.int .i64 p, .slice a xs.length c] w fun e w' => e = .returned (.int .i64 (polyE p xs)) ∧ w = w' := by
  unfold maxLen at hl
  have HP := Lib.hid fun w => ref_PrimeCheck p w
  by_cases h0 : primeE p = 0
  · by_cases hlong : 13 < xs.length
    · rw [polyE_b h0 hlong]
      rw [h0] at HP
      obtain ⟨L, hL⟩ : ∃ L, xs.length = L := ⟨_, rfl⟩
      rw [hL] at hl hlong ⊢
      have d1 : decide (13 < (L : Int)) = true := decide_eq_true (by omega)
      clear h0 h hL
      go_enter Try.func36, Try.ntmps36
      go_wp2_with fail
      refine (HP.out _).mono ?_
      rintro e w1 ⟨rfl, rfl⟩
      go_wp2
      go_ret
      exact ⟨rfl, rfl⟩
    · have HB := Lib.hid fun j x => polyE_bad h0 hlong j x
      have HE := Lib.hid (polyE_end h0 hlong)
      have HR := Lib.hid h
      have HLast := Lib.hid fun (L : Nat) (x : Int) => getLastD_at (xs := xs) (L := L) (x := x)
      obtain ⟨T, hT⟩ : ∃ T, polyE p xs = T := ⟨_, rfl⟩
      rw [hT] at HB HE ⊢
      rw [h0] at HP
      obtain ⟨L, hL⟩ : ∃ L, xs.length = L := ⟨_, rfl⟩
      have HL := Lib.hid hL
      rw [hL] at hl hlong ⊢
      have d1 : decide (13 < (L : Int)) = false := decide_eq_false (by omega)
      clear h0 h hL hT
      go_enter Try.func36, Try.ntmps36
      go_wp2_with fail
      refine (HP.out _).mono ?_
      rintro e w1 ⟨rfl, rfl⟩
      go_wp2
      go_loop [18] (fun s => ∃ I : Nat, s = .int .i64 I ∧ I ≤ L ∧ Hid (∀ (j : Nat) (x : Int), j < I → xs[j]? = some x → badB p x = false)) (fun s => L - (intOf s).toNat)
      case atStart => exact ⟨0, rfl, Nat.zero_le _, Lib.hid fun j x hj => absurd hj (Nat.not_lt_zero _)⟩
      case round =>
        obtain ⟨I, rfl, hI, HZ⟩ := hrel
        by_cases hlt : I < L
        · obtain ⟨x, hx⟩ : ∃ x, xs[I]? = some x := ⟨_, List.getElem?_eq_getElem (by rw [HL.out]; omega)⟩
          obtain ⟨b, o, rfl, hcell⟩ := HR.out.shape (by rw [HL.out]; omega)
          have kx := hcell I x hx
          have HX := Lib.hid hx
          clear hcell hx
          by_cases hx0 : x < 0
          · have HF := Lib.hid (HB.out I x HX.out (by simp [badB]; omega))
            go_wp2
            go_ret
            exact ⟨by rw [HF.out]; rfl, rfl⟩
          · by_cases hxp : p ≤ x
            · have HF := Lib.hid (HB.out I x HX.out (by simp [badB]; omega))
              go_wp2
              go_ret
              exact ⟨by rw [HF.out]; rfl, rfl⟩
            · go_wp2
              go_round
              case rel =>
                refine ⟨I + 1, by go_num, by omega, Lib.hid fun j y hj hy => ?_⟩
                by_cases e : j = I
                · subst e; rw [HX.out] at hy; cases hy; simp [badB]; omega
                · exact HZ.out j y (by omega) hy
              case measure => simp [intOf]; omega
        · obtain rfl : I = L := by omega
          have HF := Lib.hid (HE.out fun j x hj => HZ.out j x (by rw [← HL.out]; exact (List.getElem?_eq_some_iff.1 hj).1) hj)
          clear HE HZ
          by_cases hI0 : I = 0
          · subst hI0
            have HF2 : Hid (T = 0) := Lib.hid (by rw [HF.out, if_neg]; rintro ⟨h1, _⟩; exact h1 (List.eq_nil_of_length_eq_zero HL.out))
            go_wp2
            go_ret
            exact ⟨by rw [HF2.out]; rfl, rfl⟩
          · obtain ⟨k, rfl⟩ : ∃ k, I = k + 1 := ⟨I - 1, by omega⟩
            obtain ⟨x, hx⟩ : ∃ x, xs[k]? = some x := ⟨_, List.getElem?_eq_getElem (by rw [HL.out]; omega)⟩
            obtain ⟨b, o, rfl, hcell⟩ := HR.out.shape (by rw [HL.out]; omega)
            have kx := hcell k x hx
            have HX := Lib.hid (HLast.out k x hx HL.out)
            have HN : Hid (xs ≠ []) := Lib.hid (by intro e; have := HL.out; rw [e] at this; simp at this)
            clear hcell hx
            by_cases hx0 : x = 0
            · subst hx0
              have HF2 : Hid (T = 4) := Lib.hid (by rw [HF.out, if_pos ⟨HN.out, HX.out⟩])
              go_wp2
              go_ret
              exact ⟨by rw [HF2.out]; rfl, rfl⟩
            · have HF2 : Hid (T = 0) := Lib.hid (by rw [HF.out, if_neg]; rintro ⟨_, h2⟩; exact hx0 (HX.out ▸ h2))
              have e1 : (x == 0) = false := by simpa using hx0
              go_wp2
              go_ret
              exact ⟨by rw [HF2.out]; rfl, rfl⟩
  · rw [polyE_a h0]
    obtain ⟨t, ht⟩ : ∃ t, primeE p = t := ⟨_, rfl⟩
    rw [ht] at HP h0 ⊢
    obtain ⟨L, hL⟩ : ∃ L, xs.length = L := ⟨_, rfl⟩
    rw [hL] at hl ⊢
    have e1 : (t == 0) = false := by simpa using h0
    have e2 : (t != 0) = true := by simpa using h0
    clear h0 h hL ht
    go_enter Try.func36, Try.ntmps36
    go_wp2_with fail
    refine (HP.out _).mono ?_
    rintro e w1 ⟨rfl, rfl⟩
    go_wp2
    go_ret
    exact ⟨rfl, rfl⟩
/-- all the first n polynomials may be -/
noncomputable def allB (p : Int) (R : Nat → Option Addr × Nat × List Int) (n : Nat) : Bool := (List.range n).all fun j => decide (polyE p (R j).2.2 = 0)
theorem allB_yes {p : Int} {R : Nat → Option Addr × Nat × List Int} {n : Nat} (h : ∀ j, j < n → polyE p (R j).2.2 = 0) : allB p R n = true := by
  unfold allB; rw [List.all_eq_true]; intro j hj; simp [h j (List.mem_range.1 hj)]
theorem allB_no {p : Int} {R : Nat → Option Addr × Nat × List Int} {n j : Nat} (hj : j < n) (h : polyE p (R j).2.2 ≠ 0) : allB p R n = false := by
  unfold allB; rw [List.all_eq_false]; exact ⟨j, List.mem_range.2 hj, by simp [h]⟩
set_option maxRecDepth 20000 in
set_option maxHeartbeats 3200000 in
theorem keep_sound (p : Int) (R : Nat → Option Addr × Nat × List Int) (g n cap : Nat) (w : World) (hn : n ≤ 100) (hc : n ≤ cap)
    (h : ∀ j, j < n → w.cell? ⟨g, j, none⟩ = some (.slice (R j).1 (R j).2.2.length (R j).2.1) ∧ RowL w (R j).1 (R j).2.1 (R j).2.2 ∧ (R j).2.2.length ≤ maxLen) :
    Calls Try.prog 13 #[.int .i64 p, .slice (some ⟨g, 0, none⟩) n cap] w fun e w' => e = .returned (.bool (allB p R n)) ∧ w = w' := by
  have HY := Lib.hid (allB_yes (p := p) (R := R) (n := n))
  have HN := Lib.hid fun j => allB_no (p := p) (R := R) (n := n) (j := j)
  have HH := Lib.hid h
  obtain ⟨T, hT⟩ : ∃ T, allB p R n = T := ⟨_, rfl⟩
  rw [hT] at HY HN ⊢
  clear h hT
  go_enter Try.func13, Try.ntmps13
  go_wp2
  go_loop [9] (fun s => ∃ I : Nat, s = .int .i64 I ∧ I ≤ n ∧ Hid (∀ (j : Nat), j < I → polyE p (R j).2.2 = 0)) (fun s => n - (intOf s).toNat)
  case atStart => exact ⟨0, rfl, Nat.zero_le _, Lib.hid fun j hj => absurd hj (Nat.not_lt_zero _)⟩
  case round =>
    obtain ⟨I, rfl, hI, HZ⟩ := hrel
    by_cases hlt : I < n
    · obtain ⟨k0, hr, hl⟩ := HH.out I hlt
      have HC := Lib.hid (ref_PolyCheck p _ _ _ w hr hl)
      have HN2 := Lib.hid (HN.out I hlt)
      obtain ⟨t, ht⟩ : ∃ t, polyE p (R I).2.2 = t := ⟨_, rfl⟩
      have HT := Lib.hid ht
      rw [ht] at HC HN2
      obtain ⟨a, ha⟩ : ∃ a, (R I).1 = a := ⟨_, rfl⟩
      obtain ⟨c, hc⟩ : ∃ c, (R I).2.1 = c := ⟨_, rfl⟩
      obtain ⟨L, hL⟩ : ∃ L, (R I).2.2.length = L := ⟨_, rfl⟩
      rw [ha, hc, hL] at k0 HC
      clear hr hl ht ha hc hL
      by_cases h0 : t = 0
      · subst h0
        go_wp2_with fail
        refine HC.out.mono ?_
        rintro e w1 ⟨rfl, rfl⟩
        go_wp2
        go_round
        case rel =>
          refine ⟨I + 1, by go_num, by omega, Lib.hid fun j hj => ?_⟩
          by_cases e : j = I
          · subst e; exact HT.out
          · exact HZ.out j (by omega)
        case measure => simp [intOf]; omega
      · have e1 : (t == 0) = false := by simpa using h0
        have e2 : (t != 0) = true := by simpa using h0
        have HF := Lib.hid (HN2.out h0)
        clear h0
        go_wp2_with fail
        refine HC.out.mono ?_
        rintro e w1 ⟨rfl, rfl⟩
        go_wp2
        go_ret
        exact ⟨by rw [HF.out]; rfl, rfl⟩
    · obtain rfl : I = n := by omega
      have HF := Lib.hid (HY.out HZ.out)
      go_wp2
      go_ret
      exact ⟨by rw [HF.out]; rfl, rfl⟩
/-- what is wrong with two polynomials -/
noncomputable def bothE (p : Int) (xs ys : List Int) : Int := if polyE p xs ≠ 0 then polyE p xs else polyE p ys
theorem bothE_zero {p : Int} {xs ys : List Int} : bothE p xs ys = 0 ↔ Good p xs ∧ Good p ys := by
  unfold bothE
  rw [← polyE_zero, ← polyE_zero]
  split <;> omega
set_option maxHeartbeats 800000 in
theorem poly_both (p : Int) (a b : Option Addr) (c d : Nat) (xs ys : List Int) (w : World) (h1 : RowL w a c xs) (h2 : RowL w b d ys) (l1 : xs.length ≤ maxLen) (l2 : ys.length ≤ maxLen) :
    Calls Try.prog 42 #[.int .i64 p, .slice a xs.length c, .slice b ys.length d] w fun e w' => e = .returned (.int .i64 (bothE p xs ys)) ∧ Below w.heap.size w w' := by
  have H1 := Lib.hid (poly_Check p a c xs w h1 l1)
  have H2 := Lib.hid fun w' h => poly_Check p b d ys w' h l2
  have HR := Lib.hid h2
  unfold bothE
  obtain ⟨t, ht⟩ : ∃ t, polyE p xs = t := ⟨_, rfl⟩
  obtain ⟨u, hu⟩ : ∃ u, polyE p ys = u := ⟨_, rfl⟩
  obtain ⟨La, hLa⟩ : ∃ L, xs.length = L := ⟨_, rfl⟩
  obtain ⟨Lb, hLb⟩ : ∃ L, ys.length = L := ⟨_, rfl⟩
  rw [ht, hLa] at H1
  rw [hu, hLb] at H2
  rw [ht, hu, hLa, hLb]
  clear ht hu hLa hLb h1 h2 l1 l2
  by_cases h0 : t = 0
  · subst h0
    rw [if_neg (by simp)]
    go_enter Try.func42, Try.ntmps42
    go_wp2_with fail
    refine H1.out.mono ?_
    rintro e w1 ⟨rfl, hb1⟩
    go_wp2_with fail
    refine (H2.out _ (HR.out.below hb1 (Nat.le_refl _))).mono ?_
    rintro e w2 ⟨rfl, hb2⟩
    go_wp2
    go_ret
    exact ⟨rfl, below_two hb1 hb2⟩
  · rw [if_pos h0]
    have e1 : (t == 0) = false := by simpa using h0
    have e2 : (t != 0) = true := by simpa using h0
    clear h0
    go_enter Try.func42, Try.ntmps42
    go_wp2_with fail
    refine H1.out.mono ?_
    rintro e w1 ⟨rfl, hb1⟩
    go_wp2
    go_ret
    exact ⟨rfl, hb1⟩
set_option maxRecDepth 20000 in
set_option maxHeartbeats 1600000 in
theorem ref_Longs (a b : Option Addr) (c d : Nat) (xs ys : List Int) (w : World) (h1 : RowL w a c xs) (h2 : RowL w b d ys) (l1 : xs.length ≤ 1048576) (l2 : ys.length ≤ 1048576) :
    Calls Try.prog 18 #[.slice a xs.length c, .slice b ys.length d] w fun e w' => e = .returned (.bool (decide (xs = ys))) ∧ Below w.heap.size w w' := by
  have HR1 := Lib.hid h1
  have HR2 := Lib.hid h2
  have HQ := Lib.hid fun (h : xs.length ≠ ys.length) => decide_eq_false (fun e : xs = ys => h (by rw [e]))
  have HD := Lib.hid fun (I : Nat) (x y : Int) (hx : xs[I]? = some x) (hy : ys[I]? = some y) (hne : x ≠ y) => decide_eq_false (fun e : xs = ys => hne (by rw [e, hy] at hx; cases hx; rfl))
  have HE := Lib.hid fun (h : ∀ i : Nat, i < xs.length → xs[i]? = ys[i]?) (hl : xs.length = ys.length) => decide_eq_true (show xs = ys from List.ext_getElem? fun i => by
    by_cases hi : i < xs.length
    · exact h i hi
    · rw [List.getElem?_eq_none (by omega), List.getElem?_eq_none (by omega)])
  obtain ⟨T, hT⟩ : ∃ T, decide (xs = ys) = T := ⟨_, rfl⟩
  rw [hT] at HQ HD HE ⊢
  obtain ⟨La, hLa⟩ : ∃ L, xs.length = L := ⟨_, rfl⟩
  obtain ⟨Lb, hLb⟩ : ∃ L, ys.length = L := ⟨_, rfl⟩
  have HLa := Lib.hid hLa
  have HLb := Lib.hid hLb
  rw [hLa, hLb] at HQ HE ⊢
  rw [hLa] at l1
  rw [hLb] at l2
  clear hT hLa hLb h1 h2
  by_cases hl : La = Lb
  · subst hl
    go_enter Try.func18, Try.ntmps18
    go_wp2
    go_loopw [5] (fun s wr => ∃ I : Nat, s = .int .i64 I ∧ I ≤ La ∧ Below w.heap.size w wr ∧ Hid (∀ j : Nat, j < I → xs[j]? = ys[j]?)) (fun s _ => La - (intOf s).toNat)
    case atStart => exact ⟨0, rfl, Nat.zero_le _, Below.refl _ _, Lib.hid fun j hj => absurd hj (Nat.not_lt_zero _)⟩
    case round =>
      obtain ⟨I, rfl, hI, hb, HZ⟩ := hrel
      by_cases hlt : I < La
      · obtain ⟨x, hx⟩ : ∃ x, xs[I]? = some x := ⟨_, List.getElem?_eq_getElem (by rw [HLa.out]; omega)⟩
        obtain ⟨y, hy⟩ : ∃ y, ys[I]? = some y := ⟨_, List.getElem?_eq_getElem (by rw [HLb.out]; omega)⟩
        obtain ⟨b1, o1, rfl, hcell1⟩ := (HR1.out.below hb (Nat.le_refl _)).shape (by rw [HLa.out]; omega)
        obtain ⟨b2, o2, rfl, hcell2⟩ := (HR2.out.below hb (Nat.le_refl _)).shape (by rw [HLb.out]; omega)
        have kx := hcell1 I x hx
        have ky := hcell2 I y hy
        have HX := Lib.hid hx
        have HY := Lib.hid hy
        clear hcell1 hcell2 hx hy
        by_cases e : x = y
        · subst e
          go_wp2_with fail
          go_quiet (fail)
          go_wp2
          go_round
          case rel =>
            refine ⟨I + 1, by go_num, by omega, by first | exact hb | exact below_drewN hb _, Lib.hid fun j hj => ?_⟩
            by_cases e : j = I
            · subst e; rw [HX.out, HY.out]
            · exact HZ.out j (by omega)
          case measure => simp [intOf]; omega
        · have e1 : (x == y) = false := by simpa using e
          have e2 : (x != y) = true := by simpa using e
          have HF := Lib.hid (HD.out I x y HX.out HY.out e)
          clear e
          go_wp2_with fail
          go_quiet (fail)
          go_wp2
          go_ret
          exact ⟨by rw [HF.out]; rfl, by first | exact hb | exact below_drewN hb _⟩
      · obtain rfl : I = La := by omega
        have HF := Lib.hid (HE.out (fun i hi => HZ.out i hi) trivial)
        go_wp2
        go_ret
        exact ⟨by rw [HF.out]; rfl, by first | exact hb | exact below_drewN hb _⟩
  · have HF := Lib.hid (HQ.out hl)
    have e1 : ((La : Int) == (Lb : Int)) = false := by simp; omega
    have e2 : ((La : Int) != (Lb : Int)) = true := by simp; omega
    go_enter Try.func18, Try.ntmps18
    go_wp2
    go_ret
    exact ⟨by rw [HF.out]; rfl, Below.refl _ _⟩
end Go.Proofs.Ytfgmnlphejpcaaa
