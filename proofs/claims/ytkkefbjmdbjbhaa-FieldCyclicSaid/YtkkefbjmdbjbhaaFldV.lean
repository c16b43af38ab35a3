/- The contracts of lockwrightref.FieldCheck, lockwrightkeep.within, raised. -/
import Derived.Test.YtkkefbjmdbjbhaaFldU
namespace Go.Proofs.Ytkkefbjmdbjbhaa
open Go.RowKit
set_option linter.unusedVariables false
set_option linter.unusedSimpArgs false
set_option maxRecDepth 100000 in
set_option maxHeartbeats 3200000 in
theorem ref_FieldCheck (p : Int) (f : List Int) (af : Option Addr) (Lf cf : Nat) (w : World) (hf : RowL w af cf f) (hLf : f.length = Lf) (hl : Lf ≤ maxLen) :
    Calls Try.prog 15 #[.int .i64 p, .slice af Lf cf] w fun e w' => e = .returned (.int .i64 (fldE p f)) ∧ Below w.heap.size w w' := by
  have HC := Lib.hid (refPoly_w (p := p) hf hLf hl)
  have HF := Lib.hid hf
  unfold maxLen at hl
  by_cases h1 : polyE p f = 0
  · obtain ⟨g1, g2, gpr⟩ := (polyE_zero.1 h1).prime
    have g3 : Lf ≤ 13 := hLf ▸ (polyE_zero.1 h1).len
    rw [h1] at HC
    by_cases h2 : f.length < 2 ∨ f.getLastD 1 ≠ 1
    · rw [fldE_b h1 h2]
      rw [hLf] at h2
      by_cases hs : Lf < 2
      · clear h2 h1 hLf hf
        go_enter Try.func15, Try.ntmps15
        go_wp2_with fail
        refine HC.out.mono ?_
        rintro e w1 ⟨rfl, rfl⟩
        go_wp2
        go_ret
        exact ⟨rfl, Below.refl _ _⟩
      · obtain ⟨n, rfl⟩ : ∃ n, Lf = n + 1 := ⟨Lf - 1, by omega⟩
        obtain ⟨x, hx⟩ : ∃ x, f[n]? = some x := ⟨_, List.getElem?_eq_getElem (by omega)⟩
        have hx1 : ¬ x = 1 := by
          rw [getLastD_at hx hLf] at h2
          exact h2.resolve_left hs
        obtain ⟨b, o, rfl, hc⟩ := hf.shape (by omega)
        have kx := hc n x hx
        have x1 : (x == 1) = false := by simpa using hx1
        have x2 : (x != 1) = true := by simpa using hx1
        have d1 : decide ((n : Int) + 1 < 2) = false := decide_eq_false (by omega)
        clear h2 hc hx h1 hLf hf
        go_enter Try.func15, Try.ntmps15
        go_wp2_with fail
        refine HC.out.mono ?_
        rintro e w1 ⟨rfl, rfl⟩
        go_wp2
        go_ret
        exact ⟨rfl, Below.refl _ _⟩
    · obtain ⟨n, rfl⟩ : ∃ n, Lf = n + 1 := ⟨Lf - 1, by omega⟩
      obtain ⟨x, hx⟩ : ∃ x, f[n]? = some x := ⟨_, List.getElem?_eq_getElem (by omega)⟩
      obtain rfl : x = 1 := by
        rw [getLastD_at hx hLf] at h2
        exact Classical.byContradiction fun e => h2 (.inr e)
      have hn1 : 1 ≤ n := by omega
      obtain ⟨b, o, rfl, hc⟩ := hf.shape (by omega)
      have kx := hc n 1 hx
      have d1 : decide ((n : Int) + 1 < 2) = false := decide_eq_false (by omega)
      obtain ⟨P, rfl⟩ := Int.eq_ofNat_of_zero_le (show 0 ≤ p by omega)
      have HSZ := Lib.hid fun w => ref_FieldSize P n (some ⟨b, o, none⟩) cf (n + 1) w (by omega) (by omega) rfl (by omega)
      have hlen : f.length - 1 = n := by omega
      by_cases h3 : 4096 < P ^ n
      · rw [fldE_c h1 h2 (by rw [hlen, Int.toNat_natCast]; exact h3)]
        rw [show szN P n = 0 from if_pos h3] at HSZ
        clear h3 h2 h1 hLf hf hc hx gpr hlen
        go_enter Try.func15, Try.ntmps15
        go_wp2_with fail
        refine HC.out.mono ?_
        rintro e w1 ⟨rfl, rfl⟩
        go_wp2_with fail
        refine (HSZ.out _).mono ?_
        rintro e w1 ⟨rfl, rfl⟩
        go_wp2
        go_ret
        exact ⟨rfl, Below.refl _ _⟩
      · have hfd : Fld P f n := by
          have := fld_of h1 h2 (by rw [hlen, Int.toNat_natCast]; exact h3)
          rwa [hlen, Int.toNat_natCast] at this
        have HPR := Lib.hid fun w h => ref_product P n f (some ⟨b, o, none⟩) (n + 1) cf w hfd h hLf
        have HTd := Lib.hid fun h4 => fldE_d h1 h2 (by rw [hlen, Int.toNat_natCast]; exact h3) h4
        have HTe := Lib.hid fun h4 => fldE_e h1 h2 (by rw [hlen, Int.toNat_natCast]; exact h3) h4
        rw [hlen, Int.toNat_natCast] at HTd HTe
        rw [szN_ok h3] at HSZ
        have hpos := hfd.one_lt
        obtain ⟨S, hS⟩ : ∃ S, P ^ n = S := ⟨_, rfl⟩
        obtain ⟨T, hT⟩ : ∃ T, fldE P f = T := ⟨_, rfl⟩
        rw [hS] at HSZ hpos
        rw [hT] at HTd HTe ⊢
        have hs1 : ((S : Int) == 0) = false := by simp; omega
        have hs2 : ¬ (S : Int) = 0 := by omega
        have hs3 : ¬ S = 0 := by omega
        clear h3 h2 h1 hLf hf hc hx gpr hfd hS hT hlen
        go_enter Try.func15, Try.ntmps15
        go_wp2_with fail
        refine HC.out.mono ?_
        rintro e w1 ⟨rfl, rfl⟩
        go_wp2_with fail
        refine (HSZ.out _).mono ?_
        rintro e w1 ⟨rfl, rfl⟩
        go_wp2_with fail
        refine (HPR.out _ HF.out).mono ?_
        rintro e w1 ⟨⟨t, rfl, ht⟩, hb⟩
        cases t
        · have HT := Lib.hid (HTe.out (ht.1 rfl))
          clear ht
          go_wp2
          go_ret
          exact ⟨by rw [HT.out]; rfl, hb⟩
        · have HT := Lib.hid (HTd.out fun e => by have := ht.2 e; cases this)
          clear ht
          go_wp2
          go_ret
          exact ⟨by rw [HT.out]; rfl, hb⟩
  · rw [fldE_a h1]
    obtain ⟨E, hE⟩ : ∃ E, polyE p f = E := ⟨_, rfl⟩
    rw [hE] at HC h1 ⊢
    have e1 : (E == 0) = false := by simpa using h1
    have e2 : (E != 0) = true := by simpa using h1
    clear h1 hE hf hLf
    go_enter Try.func15, Try.ntmps15
    go_wp2_with fail
    refine HC.out.mono ?_
    rintro e w1 ⟨rfl, rfl⟩
    go_wp2
    go_ret
    exact ⟨rfl, Below.refl _ _⟩
set_option maxRecDepth 100000 in
set_option maxHeartbeats 3200000 in
theorem keep_within_no (p : Int) (f : List Int) (af : Option Addr) (Lf cf : Nat) (ad : Option Addr) (n cd : Nat) (w : World) (hf : RowL w af cf f) (hLf : f.length = Lf) (hl : Lf ≤ maxLen) (h : fldE p f ≠ 0) :
    Calls Try.prog 8 #[.int .i64 p, .slice af Lf cf, .slice ad n cd] w fun e w' => e = .returned (.bool false) ∧ Below w.heap.size w w' := by
  have HC := Lib.hid (ref_FieldCheck p f af Lf cf w hf hLf hl)
  unfold maxLen at hl
  obtain ⟨E, hE⟩ : ∃ E, fldE p f = E := ⟨_, rfl⟩
  rw [hE] at HC h
  have e1 : (E == 0) = false := by simpa using h
  have e2 : (E != 0) = true := by simpa using h
  clear h hE hf hLf
  go_enter Try.func8, Try.ntmps8
  go_wp2_with fail
  refine HC.out.mono ?_
  rintro e w1 ⟨rfl, hb⟩
  go_wp2
  go_ret
  exact ⟨rfl, hb⟩
set_option maxRecDepth 100000 in
set_option maxHeartbeats 3200000 in
theorem keep_within_fld (p : Int) (f xs : List Int) (af : Option Addr) (Lf cf : Nat) (ad : Option Addr) (n cd : Nat) (w : World) (hf : RowL w af cf f) (hLf : f.length = Lf) (hl : Lf ≤ maxLen) (hx : RowL w ad cd xs) (hn : xs.length = n) (hn2 : n ≤ 100) (h : fldE p f = 0) :
    Calls Try.prog 8 #[.int .i64 p, .slice af Lf cf, .slice ad n cd] w fun e w' => e = .returned (.bool (decide (elE p f xs = 0))) ∧ Below w.heap.size w w' := by
  have HC := Lib.hid (ref_FieldCheck p f af Lf cf w hf hLf hl)
  rw [h] at HC
  obtain ⟨g0, g1, g2, hfd, hirr, hl2, hl13⟩ := fldE_zero h
  have HTb : Hid (∀ (j : Nat) (x : Int), xs[j]? = some x → offB p f x = true → elE p f xs = 2) := Lib.hid fun j x h1 h2 => elE_b h h1 h2
  have HTc : Hid ((∀ (j : Nat) (x : Int), xs[j]? = some x → offB p f x = false) → elE p f xs = 0) := Lib.hid fun h1 => elE_c h h1
  have HOF : Hid (∀ x, offB p f x = decide (x < 0 ∨ ((p.toNat ^ (f.length - 1) : Nat) : Int) ≤ x)) := Lib.hid fun x => rfl
  obtain ⟨T, hT⟩ : ∃ T, elE p f xs = T := ⟨_, rfl⟩
  rw [hT] at HTb HTc ⊢
  have hS := hfd.small
  obtain ⟨P, rfl⟩ := Int.eq_ofNat_of_zero_le (show 0 ≤ p by omega)
  have HSZ := Lib.hid fun w => ref_FieldSize P (f.length - 1) af cf Lf w (by omega) (by omega) (by omega) (by omega)
  rw [Int.toNat_natCast] at HOF hS
  rw [szN_ok (show ¬ 4096 < P ^ (f.length - 1) by omega)] at HSZ
  obtain ⟨S, hSe⟩ : ∃ S, P ^ (f.length - 1) = S := ⟨_, rfl⟩
  rw [hSe] at HSZ hS HOF
  have HX := Lib.hid hx
  have HN := Lib.hid hn
  clear hT hSe hfd hirr g0 hx hn hf hl2 hl13 h hl hLf
  go_enter Try.func8, Try.ntmps8
  go_wp2_with fail
  refine HC.out.mono ?_
  rintro e w1 ⟨rfl, hbw⟩
  have HX1 := Lib.hid (HX.out.below hbw (Nat.le_refl _))
  go_wp2
  go_loopw [15] (fun iv wr => ∃ I : Nat, iv = .int .i64 I ∧ I ≤ n ∧ Hid (∀ (j : Nat) (x : Int), j < I → xs[j]? = some x → offB P f x = false) ∧ ∃ q, wr = w1.drewN q) (fun iv _ => (n - intOf iv).toNat)
  case atStart => exact ⟨0, rfl, Nat.zero_le _, Lib.hid fun j x hj => absurd hj (Nat.not_lt_zero _), 0, rfl⟩
  case round =>
    obtain ⟨I, rfl, hI, HZ, q, rfl⟩ := hrel
    obtain ⟨w4, hw4⟩ : ∃ W, W = w1.drewN q := ⟨_, rfl⟩
    have hb4 := below_drewN hbw q
    rw [← hw4] at hb4 ⊢
    have HX4 := Lib.hid (HX.out.below hb4 (Nat.le_refl _))
    replace hw4 := Lib.hid hw4
    by_cases hlt : I < n
    · obtain ⟨x, hx⟩ : ∃ x, xs[I]? = some x := ⟨_, List.getElem?_eq_getElem (by rw [HN.out]; omega)⟩
      obtain ⟨b, o, rfl, hc⟩ := HX4.out.shape (by rw [HN.out]; omega)
      have kx := hc I x hx
      have HXI := Lib.hid hx
      clear hc hx
      by_cases hneg : x < 0
      · have HT := Lib.hid (HTb.out I x HXI.out (by rw [HOF.out]; exact decide_eq_true (.inl hneg)))
        go_wp2
        go_ret
        exact ⟨by rw [HT.out]; rfl, hb4⟩
      · by_cases hbig : (S : Int) ≤ x
        · have HT := Lib.hid (HTb.out I x HXI.out (by rw [HOF.out]; exact decide_eq_true (.inr hbig)))
          go_wp2_with fail
          refine (HSZ.out _).mono ?_
          rintro e w5 ⟨rfl, rfl⟩
          go_wp2
          go_ret
          exact ⟨by rw [HT.out]; rfl, hb4⟩
        · have HG : Hid (offB P f x = false) := Lib.hid (by rw [HOF.out]; exact decide_eq_false (by omega))
          go_wp2_with fail
          refine (HSZ.out _).mono ?_
          rintro e w5 ⟨rfl, rfl⟩
          go_wp2
          go_roundw
          case rel => exact ⟨I + 1, by go_num, hlt, Lib.hid fun j y hj hy => by
            by_cases e : j = I
            · subst e; rw [HXI.out] at hy; cases hy; exact HG.out
            · exact HZ.out j y (by omega) hy, by rw [hw4.out]; exact ⟨_, rfl⟩⟩
          case measure => simp [intOf]; omega
    · obtain rfl : I = n := by omega
      have HT := Lib.hid (HTc.out fun j x hj => HZ.out j x (by rw [← HN.out]; exact (List.getElem?_eq_some_iff.1 hj).1) hj)
      go_wp2
      go_ret
      exact ⟨by rw [HT.out]; rfl, hb4⟩
theorem keep_within (p : Int) (f xs : List Int) (af : Option Addr) (Lf cf : Nat) (ad : Option Addr) (n cd : Nat) (w : World) (hf : RowL w af cf f) (hLf : f.length = Lf) (hl : Lf ≤ maxLen) (hx : RowL w ad cd xs) (hn : xs.length = n) (hn2 : n ≤ 100) :
    Calls Try.prog 8 #[.int .i64 p, .slice af Lf cf, .slice ad n cd] w fun e w' => e = .returned (.bool (decide (elE p f xs = 0))) ∧ Below w.heap.size w w' := by
  by_cases h : fldE p f = 0
  · exact keep_within_fld p f xs af Lf cf ad n cd w hf hLf hl hx hn hn2 h
  · rw [decide_eq_false (show ¬ elE p f xs = 0 by rw [elE_a h]; exact h)]
    exact keep_within_no p f af Lf cf ad n cd w hf hLf hl h
theorem elE_one {p : Int} {f : List Int} {a : Nat} (h : fldE p f = 0) {m : Nat} (hm : f.length - 1 = m) (ha : a < p.toNat ^ m) : elE p f [(a : Int)] = 0 := elE_c h fun j x hx => by
  match j, hx with
  | 0, hx => cases hx; unfold offB; rw [hm]; exact decide_eq_false (by omega)
  | j + 1, hx => simp at hx
theorem elE_two {p : Int} {f : List Int} {a b : Nat} (h : fldE p f = 0) {m : Nat} (hm : f.length - 1 = m) (ha : a < p.toNat ^ m) (hb : b < p.toNat ^ m) : elE p f [(a : Int), (b : Int)] = 0 := elE_c h fun j x hx => by
  match j, hx with
  | 0, hx => cases hx; unfold offB; rw [hm]; exact decide_eq_false (by omega)
  | 1, hx => cases hx; unfold offB; rw [hm]; exact decide_eq_false (by omega)
  | j + 2, hx => simp at hx
/-- a field that may be, with its prime as a number -/
structure Fd (P m : Nat) (f : List Int) : Prop where
  e : fldE P f = 0
  fl : Fld P f m
  ir : Irr P f m
  len : f.length = m + 1
theorem Fd.of {p : Int} {f : List Int} (h : fldE p f = 0) : ∃ P m : Nat, p = P ∧ Fd P m f := by
  obtain ⟨g0, g1, g2, hfd, hirr, hl2, hl13⟩ := fldE_zero h
  obtain ⟨P, rfl⟩ := Int.eq_ofNat_of_zero_le (show 0 ≤ p by omega)
  rw [Int.toNat_natCast] at hfd hirr
  exact ⟨P, f.length - 1, rfl, h, hfd, hirr, by omega⟩
theorem Fd.two {P m : Nat} {f : List Int} (h : Fd P m f) {a b : Nat} (ha : a < P ^ m) (hb : b < P ^ m) : elE P f [(a : Int), (b : Int)] = 0 :=
  elE_two h.e (m := m) (by rw [h.len]; rfl) (by rw [Int.toNat_natCast]; exact ha) (by rw [Int.toNat_natCast]; exact hb)
theorem Fd.one {P m : Nat} {f : List Int} (h : Fd P m f) {a : Nat} (ha : a < P ^ m) : elE P f [(a : Int)] = 0 :=
  elE_one h.e (m := m) (by rw [h.len]; rfl) (by rw [Int.toNat_natCast]; exact ha)
theorem Fd.el {P m : Nat} {f xs : List Int} (h : Fd P m f) (he : elE P f xs = 0) {x : Int} (hx : x ∈ xs) : ∃ a : Nat, x = a ∧ a < P ^ m := by
  obtain ⟨_, h2⟩ := elE_zero he
  obtain ⟨x0, x1, x2⟩ := h2 x hx
  rw [h.len, Int.toNat_natCast, Nat.add_sub_cancel] at x1
  exact ⟨x.toNat, x2, x1⟩
set_option maxHeartbeats 3200000 in
theorem keep_raised (P m : Nat) (f : List Int) (af : Option Addr) (Lf cf a k : Nat) (w : World) (hd : Fd P m f) (hf : RowL w af cf f) (hLf : f.length = Lf) (ha : a < P ^ m) (hk : k ≤ 4096) :
    Calls Try.prog 10 #[.int .i64 P, .slice af Lf cf, .int .i64 a, .int .i64 k] w fun e w' => e = .returned (.int .i64 (powF P f a k)) ∧ Below w.heap.size w w' := by
  have h13 : Lf ≤ 13 := by have := hd.fl.m12; have := hd.len; omega
  have HM := Lib.hid fun (x : Nat) w hf (hx : x < P ^ m) => field_Mul P m f af Lf cf x a w hd.fl hf hLf (by unfold maxLen; omega) (hd.two hx ha)
  have HL := Lib.hid fun k => hd.fl.pow_lt a k
  have HP0 : Hid (powF P f a 0 = 1) := Lib.hid rfl
  have HPS : Hid (∀ k, powF P f a (k + 1) = mulF P f (powF P f a k) a) := Lib.hid fun k => rfl
  have HF := Lib.hid hf
  have hsm := hd.fl.small
  clear hf hLf hd
  go_enter Try.func10, Try.ntmps10
  go_wp2
  go_loopw [9, 10] (fun xv iv wr => ∃ I : Nat, iv = .int .i64 I ∧ I ≤ k ∧ xv = .int .i64 (powF P f a I) ∧ Below w.heap.size w wr) (fun _ iv _ => (k - intOf iv).toNat)
  case atStart => exact ⟨0, rfl, Nat.zero_le _, by rw [HP0.out]; rfl, Below.refl _ _⟩
  case round =>
    obtain ⟨I, rfl, hI, rfl, hb⟩ := hrel
    have HMI := Lib.hid fun w hf => HM.out (powF P f a I) w hf (HL.out I)
    have HPI := Lib.hid (HPS.out I)
    have HF2 := Lib.hid (HF.out.below hb (Nat.le_refl _))
    have hli := HL.out I
    rw [← HPI.out] at HMI
    obtain ⟨X, hX⟩ : ∃ X, powF P f a I = X := ⟨_, rfl⟩
    rw [hX] at HMI hli ⊢
    by_cases hlt : I < k
    · have hl2 := HL.out (I + 1)
      obtain ⟨Y, hY⟩ : ∃ X, powF P f a (I + 1) = X := ⟨_, rfl⟩
      have HY := Lib.hid hY
      rw [hY] at HMI hl2
      clear hY hX
      go_wp2_with fail
      refine (HMI.out _ HF2.out).mono ?_
      rintro e w5 ⟨rfl, hb5⟩
      have hb6 := below_two hb hb5
      clear hb hb5
      go_wp2
      go_roundw
      case rel => exact ⟨I + 1, by go_num, hlt, by rw [HY.out], hb6⟩
      case measure => simp [intOf]; omega
    · obtain rfl : I = k := by omega
      have HX := Lib.hid hX
      clear hX
      go_wp2
      go_ret
      exact ⟨by rw [HX.out]; rfl, hb⟩
end Go.Proofs.Ytkkefbjmdbjbhaa
