/- The contracts of lockwrightref.product, FieldCheck. -/
import Derived.Test.YtkkefbjmdbjbhaaFldT
import Derived.Test.YtkkefbjmdbjbhaaPolR
namespace Go.Proofs.Ytkkefbjmdbjbhaa
open Go.RowKit
set_option linter.unusedVariables false
set_option linter.unusedSimpArgs false
theorem not_irr2 {p m : Nat} {f : List Int} (h : Fld p f m) {a : Nat} (h1 : p ≤ a) (h2 : 2 * (digL p a).length ≤ m + 2) (hd : DvP p (digL p a) f) : ¬ Irr p f m := by
  have hp := h.p2
  intro hi
  refine hi _ (dig_pl hp a) ?_ h2 hd
  refine Nat.lt_of_not_le fun hle => ?_
  have := num_lt hp (dig_rng hp a)
  rw [num_dig hp] at this
  have h3 : p ^ (digL p a).length ≤ p ^ 1 := Nat.pow_le_pow_right (by omega) hle
  rw [Nat.pow_one] at h3
  omega
theorem is_irr2 {p m : Nat} {f : List Int} (h : Fld p f m) (hn : ∀ a, p ≤ a → a < p ^ m → 2 * (digL p a).length ≤ m + 2 → ¬ DvP p (digL p a) f) : Irr p f m := by
  have hp := h.p2
  intro d hd h2 hl hdv
  have e := dig_num hp hd
  have hlt := num_lt hp hd.rng
  refine hn (numL p d) ?_ (Nat.lt_of_lt_of_le hlt (Nat.pow_le_pow_right (by omega) (by omega))) (by rw [e]; exact hl) (by rw [e]; exact hdv)
  refine Nat.le_of_not_lt fun hh => ?_
  have := dig_len hp 1 (numL p d) (by rw [Nat.pow_one]; exact hh)
  rw [e] at this
  omega
set_option maxRecDepth 100000 in
set_option maxHeartbeats 6400000 in
theorem ref_product (p m : Nat) (f : List Int) (af : Option Addr) (Lf cf : Nat) (w : World) (h : Fld p f m) (hf : RowL w af cf f) (hLf : f.length = Lf) :
    Calls Try.prog 25 #[.int .i64 p, .slice af Lf cf] w fun e w' => (∃ t : Bool, e = .returned (.bool t) ∧ (t = false ↔ Irr p f m)) ∧ Below w.heap.size w w' := by
  have hsm := h.small
  have hm12 := h.m12
  have p2 := h.p2
  have p251 := h.p251
  have hml := h.mon.len
  have hLm : Lf = m + 1 := hLf.symm.trans hml
  have HSZ := Lib.hid fun w => ref_FieldSize p m af cf Lf w p2 p251 hLm (by omega)
  rw [szN_ok (show ¬ 4096 < p ^ m by omega)] at HSZ
  have HLE := Lib.hid fun (l : List Int) (b : Option Addr) (L c : Nat) (w : World) hb e2 l0 l1 h1 h2 => ref_left p f l af b cf c Lf L w (by omega) (by omega) h.pr h.mon.pl.rng hb hLf e2 (by omega) l0 (by omega) l1 h1 h2
  have HNI := Lib.hid fun a h1 h2 hd => not_irr2 h (a := a) h1 h2 hd
  have HIR := Lib.hid fun hn => is_irr2 h hn
  have HF := Lib.hid hf
  have HPM : Hid (p ^ 1 ≤ p ^ m) := Lib.hid (Nat.pow_le_pow_right (by omega) h.m1)
  rw [Nat.pow_one] at HPM
  have hpM := HPM.out
  obtain ⟨M, hM⟩ : ∃ M, p ^ m = M := ⟨_, rfl⟩
  rw [hM] at hsm HSZ HIR hpM
  have hL2 : 2 ≤ Lf := by have := h.m1; omega
  have hL13 : Lf ≤ 13 := by omega
  have HLM := Lib.hid hLm
  clear hM HPM hf hLf h hml hLm
  go_enter Try.func25, Try.ntmps25
  go_wp2
  go_loopw [5] (fun av wr => ∃ A : Nat, av = .int .i64 A ∧ p ≤ A ∧ A ≤ M ∧ Hid (∀ a, p ≤ a → a < A → 2 * (digL p a).length ≤ m + 2 → ¬ DvP p (digL p a) f) ∧ Below w.heap.size w wr) (fun av _ => (M - intOf av).toNat)
  case atStart => exact ⟨p, rfl, Nat.le_refl _, by omega, Lib.hid fun a h1 h2 => absurd h1 (Nat.not_le_of_lt h2), Below.refl _ _⟩
  case round =>
    obtain ⟨A, rfl, hpA, hA, HE, hb⟩ := hrel
    by_cases hlt2 : A < M
    · have HD := Lib.hid (dig_pl p2 A)
      have HD0 : Hid ((digL p A) ≠ []) := Lib.hid fun e => by rw [dig_nil p2] at e; omega
      have HDL := Lib.hid (dig_len p2 13 A (Nat.lt_of_lt_of_le (show A < 2 ^ 13 by omega) (Nat.pow_le_pow_left p2 13)))
      have HNA := Lib.hid (HNI.out A hpA)
      obtain ⟨l, hl⟩ : ∃ l, digL p A = l := ⟨_, rfl⟩
      obtain ⟨n, hn⟩ : ∃ n, l.length = n + 1 := ⟨l.length - 1, by have := List.length_pos_iff.2 HD0.out; rw [hl] at this; omega⟩
      have HPO := Lib.hid fun w => ref_digits p A (n + 1) w p2 p251 (by omega) (by rw [hl]; exact hn)
      rw [hl] at HD HD0 HDL HPO HNA
      have HHL := Lib.hid hl
      have hn13 : n ≤ 12 := by have := HDL.out; omega
      have HN3 := Lib.hid hn
      clear hn hl
      go_wp2_with fail
      refine (HSZ.out _).mono ?_
      rintro e w5 ⟨rfl, rfl⟩
      go_wp2_with fail
      refine (HPO.out _).mono ?_
      rintro e w5 ⟨⟨a5, c5, rfl, hr5⟩, hb5⟩
      have HR5 := Lib.hid hr5
      have hb6 := below_two hb hb5
      have HF5 := Lib.hid (HF.out.below hb6 (Nat.le_refl _))
      clear hb hb5 hr5
      have hLm := HLM.out
      by_cases hsh : 2 * (n + 1) ≤ Lf + 1
      · have HNA2 := Lib.hid fun hd => HNA.out (by rw [HN3.out]; omega) hd
        clear hLm
        have HO := Lib.hid (HLE.out l a5 (n + 1) c5 w5 HD.out HN3.out (by omega) (by omega) HF5.out HR5.out)
        go_wp2_with fail
        refine HO.out.mono ?_
        rintro e w7 ⟨⟨a7, N7, c7, rfl, h7⟩, hb7⟩
        have hb8 := below_two hb6 hb7
        clear hb6 hb7
        by_cases h70 : N7 = 0
        · have HT := Lib.hid (HNA2.out (h7.1 h70))
          have h71 : ((N7 : Int) == 0) = true := by simp; omega
          have h72 : (N7 : Int) = 0 := by omega
          clear h7 h70
          go_wp2
          go_ret
          exact ⟨⟨true, rfl, by simpa using HT.out⟩, hb8⟩
        · have HT : Hid (¬ DvP p l f) := Lib.hid fun hd => h70 (h7.2 hd)
          have h71 : ((N7 : Int) == 0) = false := by simp; omega
          have h72 : ¬ (N7 : Int) = 0 := by omega
          clear h7
          go_wp2
          go_roundw
          case rel => exact ⟨A + 1, by go_num, by omega, by omega, Lib.hid fun a h1 h2 h3 => by
            by_cases e : a = A
            · subst e; rw [HHL.out]; exact HT.out
            · exact HE.out a h1 (by omega) h3, hb8⟩
          case measure => simp [intOf]; omega
      · clear hLm
        go_wp2
        go_roundw
        case rel => exact ⟨A + 1, by go_num, by omega, by omega, Lib.hid fun a h1 h2 h3 => by
          by_cases e : a = A
          · subst e; rw [HHL.out, HN3.out] at h3; have := HLM.out; omega
          · exact HE.out a h1 (by omega) h3, hb6⟩
        case measure => simp [intOf]; omega
    · obtain rfl : A = M := by omega
      go_wp2_with fail
      refine (HSZ.out _).mono ?_
      rintro e w5 ⟨rfl, rfl⟩
      go_wp2
      go_ret
      exact ⟨⟨false, rfl, by simp; exact HIR.out HE.out⟩, hb⟩
theorem refPoly_w {p : Int} {a : Option Addr} {c L : Nat} {xs : List Int} {w : World} (h : RowL w a c xs) (e : xs.length = L) (hl : L ≤ maxLen) :
    Calls Try.prog 24 #[.int .i64 p, .slice a L c] w fun e w' => e = .returned (.int .i64 (polyE p xs)) ∧ w = w' := by
  subst e; exact ref_PolyCheck p a c xs w h hl
end Go.Proofs.Ytkkefbjmdbjbhaa
