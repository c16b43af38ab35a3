/- The contract of (field.Field).splits. -/
import Derived.Test.YtkkefbjmdbjbhaaFldQ
namespace Go.Proofs.Ytkkefbjmdbjbhaa
open Go.RowKit
set_option linter.unusedVariables false
set_option linter.unusedSimpArgs false
set_option maxRecDepth 100000 in
set_option maxHeartbeats 6400000 in
theorem field_splits (p m : Nat) (f : List Int) (sz : Int) (af : Option Addr) (Lf cf : Nat) (w : World) (h : Fld p f m) (hf : RowL w af cf f) (hLf : f.length = Lf) :
    Calls Try.prog 31 #[.agg #[.int .i64 p, .int .i64 sz, .slice af Lf cf]] w fun e w' => (∃ t : Bool, e = .returned (.bool t) ∧ (t = false ↔ Irr p f m)) ∧ Below w.heap.size w w' := by
  have HM := Lib.hid fun (l : List Int) (b : Option Addr) (d L : Nat) (w : World) e2 l1 l0 hd h1 h2 => over_dv (p := p) (m := m) (a := af) (b := b) (c := cf) (d := d) (f := f) (xs := l) (w := w) (Lf := Lf) (Ld := L) h hLf e2 l1 l0 hd h1 h2
  have HH := Lib.hid h
  have HF := Lib.hid hf
  have hsm := h.small
  have hm12 := h.m12
  have p2 := h.p2
  have p251 := h.p251
  have HL : Lf = m + 1 := hLf.symm.trans h.mon.len
  have q1 : (Lf - 1 : Int).tdiv 2 = ((m / 2 : Nat) : Int) := by rw [HL, Int.tdiv_eq_ediv_of_nonneg (by omega)]; omega
  have q2 : (Lf - 1 : Int) / 2 = ((m / 2 : Nat) : Int) := by rw [HL]; omega
  obtain ⟨H, hH⟩ : ∃ H, m / 2 = H := ⟨_, rfl⟩
  have HHf := Lib.hid hH
  have hHm : H ≤ m := by omega
  rw [hH] at q1 q2
  have HPW := Lib.hid fun (k : Nat) (hk : k ≤ H) => Nat.le_trans (Nat.pow_le_pow_right (n := p) (by omega) (Nat.le_trans hk hHm)) hsm
  have hm1 := HH.out.m1
  have hL2 : 2 ≤ Lf := by omega
  have hL13 : Lf ≤ 13 := by omega
  replace HL := Lib.hid HL
  clear hf hLf h hH hm12 hm1
  go_enter Try.func31, Try.ntmps31
  go_wp2_with fail
  obtain ⟨w1, hw1⟩ : ∃ W, W = w.alloc (.cells #[.int .i64 p, .int .i64 sz, .slice af Lf cf] 38) := ⟨_, rfl⟩
  have k0 : w1.cell? ⟨w.heap.size, 0, none⟩ = some (.int .i64 p) := by rw [hw1]; simp [go_sem]
  have k1 : w1.cell? ⟨w.heap.size, 1, none⟩ = some (.int .i64 sz) := by rw [hw1]; simp [go_sem]
  have k2 : w1.cell? ⟨w.heap.size, 2, none⟩ = some (.slice af Lf cf) := by rw [hw1]; simp [go_sem]
  have hbw : Below w.heap.size w w1 := by rw [hw1]; exact (Below.refl _ _).alloc (Nat.le_refl _) _
  have HRF := Lib.hid (HF.out.below hbw (Nat.le_refl _))
  rw [← hw1]
  clear hw1
  go_loopw [4, 15] (fun mv iv wr => ∃ I : Nat, iv = .int .i64 I ∧ I ≤ H ∧ mv = .int .i64 ((p ^ I : Nat) : Int) ∧ ∃ q, wr = w1.drewN q) (fun _ iv _ => (H - intOf iv).toNat)
  case atStart => exact ⟨0, rfl, Nat.zero_le _, by rw [Nat.pow_zero]; rfl, 0, rfl⟩
  case round =>
    obtain ⟨I, rfl, hI, rfl, q, rfl⟩ := hrel
    have n1 := HPW.out I hI
    have HN2 := Lib.hid (HPW.out (I + 1))
    have HPS := Lib.hid (Nat.pow_succ (n := p) (m := I))
    by_cases hlt : I < H
    · have n2 := HN2.out hlt
      rw [HPS.out] at n2
      obtain ⟨P, hP⟩ : ∃ P, p ^ I = P := ⟨_, rfl⟩
      rw [hP] at n1 n2 HPS ⊢
      have e1 : ((P : Int) * p) = ((P * p : Nat) : Int) := by norm_cast
      obtain ⟨Q, hQ⟩ : ∃ Q, P * p = Q := ⟨_, rfl⟩
      rw [hQ] at n2 HPS e1
      have e2 : IntKind.i64.wrap ((P : Int) * p) = (Q : Int) := by rw [e1]; exact IntWalk.i64_in _ (by omega)
      clear hQ hP e1
      go_wp2
      go_roundw
      case rel => exact ⟨I + 1, by go_num, hlt, by rw [HPS.out], _, rfl⟩
      case measure => simp [intOf]; omega
    · obtain rfl : I = H := by omega
      have HNI := Lib.hid fun a h1 h2 hd => not_irr HH.out (a := a) h1 h2 hd
      have HIR := Lib.hid fun hn => is_irr HH.out hn
      rw [HHf.out] at HNI HIR
      obtain ⟨M, hM⟩ : ∃ M, p ^ I = M := ⟨_, rfl⟩
      rw [hM] at n1 HNI HIR ⊢
      clear HPS HN2 hM
      have hb0 := below_drewN (Below.refl w1.heap.size w1) q
      obtain ⟨w2, hw2⟩ : ∃ W, W = w1.drewN q := ⟨_, rfl⟩
      rw [← hw2] at hb0 ⊢
      clear hw2
      have kk0 := kept hb0 k0 (World.block_lt_of_cell? _ _ k0)
      go_wp2_with fail
      go_loopw [5] (fun av wr => ∃ A : Nat, av = .int .i64 A ∧ p ≤ A ∧ A ≤ 8448 ∧ Hid (∀ a, p ≤ a → a < A → co (digL p a) ((digL p a).length - 1) = 1 → ¬ DvP p (digL p a) f) ∧ Below w1.heap.size w1 wr) (fun av _ => (2 * M - intOf av).toNat)
      case atStart => exact ⟨p, rfl, Nat.le_refl _, by omega, Lib.hid fun a h1 h2 => absurd h1 (Nat.not_le_of_lt h2), hb0⟩
      case round =>
        obtain ⟨A, rfl, hpA, hA, HE, hb⟩ := hrel
        clear kk0 hb0
        have g0 := kept hb k0 (World.block_lt_of_cell? _ _ k0)
        have g1 := kept hb k1 (World.block_lt_of_cell? _ _ k1)
        have g2 := kept hb k2 (World.block_lt_of_cell? _ _ k2)
        by_cases hlt2 : A < 2 * M
        · have HD := Lib.hid (dig_pl p2 A)
          have HD0 : Hid ((digL p A) ≠ []) := Lib.hid fun e => by rw [dig_nil p2] at e; omega
          have HDL := Lib.hid (dig_len p2 14 A (Nat.lt_of_lt_of_le (show A < 2 ^ 14 by omega) (Nat.pow_le_pow_left p2 14)))
          have HNA := Lib.hid (HNI.out A hpA hlt2)
          obtain ⟨l, hl⟩ : ∃ l, digL p A = l := ⟨_, rfl⟩
          obtain ⟨n, hn⟩ : ∃ n, l.length = n + 1 := ⟨l.length - 1, by have := List.length_pos_iff.2 HD0.out; rw [hl] at this; omega⟩
          have HPO := Lib.hid fun w => field_poly p A sz af Lf cf (n + 1) w p2 p251 (by omega) (by rw [hl]; exact hn)
          rw [hl] at HD HD0 HDL HPO HNA
          have HHL := Lib.hid hl
          have hn13 : n ≤ 13 := by have := HDL.out; omega
          obtain ⟨x, hx⟩ : ∃ x, l[n]? = some x := ⟨_, List.getElem?_eq_getElem (by omega)⟩
          have HX := Lib.hid (last_co hn hx)
          have HX2 := Lib.hid hx
          have HN3 := Lib.hid hn
          clear hn hl hx
          go_wp2_with fail
          refine (HPO.out _).mono ?_
          rintro e w5 ⟨⟨a5, c5, rfl, hr5⟩, hb5⟩
          have HR5 := Lib.hid hr5
          obtain ⟨b5, o5, rfl, hc5⟩ := hr5.shape (by rw [HN3.out]; omega)
          have kx := hc5 n x HX2.out
          have hb6 := below_two hb hb5
          have g0' := kept hb5 g0 (World.block_lt_of_cell? _ _ g0)
          have g2' := kept hb5 g2 (World.block_lt_of_cell? _ _ g2)
          have HF5 := Lib.hid (HRF.out.below hb6 (Nat.le_refl _))
          clear g0 g1 g2 hc5 hb hb5 hr5
          by_cases hne : x = 1
          · subst hne
            have HO := Lib.hid (HM.out l _ c5 (n + 1) w5 HN3.out (by omega) (by omega) HD.out HF5.out HR5.out)
            go_wp2_with fail
            refine HO.out.mono ?_
            rintro e w7 ⟨⟨v7, a7, N7, c7, rfl, h7⟩, hb7⟩
            have hb8 := below_two hb6 hb7
            have g0'' := kept hb7 g0' (World.block_lt_of_cell? _ _ g0')
            clear g0' g2' hb6 hb7 kx
            by_cases h70 : N7 = 0
            · have HT := Lib.hid (HNA.out (h7.1 h70))
              have h71 : ((N7 : Int) == 0) = true := by simp; omega
              have h72 : (N7 : Int) = 0 := by omega
              clear h7 h70
              go_wp2
              go_ret
              exact ⟨⟨true, rfl, by simpa using HT.out⟩, below_two hbw hb8⟩
            · have HT : Hid (¬ DvP p l f) := Lib.hid fun hd => h70 (h7.2 hd)
              have h71 : ((N7 : Int) == 0) = false := by simp; omega
              have h72 : ¬ (N7 : Int) = 0 := by omega
              clear h7
              go_wp2
              go_roundw
              case rel => exact ⟨A + 1, by go_num, by omega, by omega, Lib.hid fun a h1 h2 h3 => by
                by_cases e : a = A
                · subst e; rw [HHL.out]; exact HT.out
                · exact HE.out a h1 (by omega) h3, hb8⟩
              case measure => simp [intOf]; omega
          · have h1' : (x == 1) = false := by simpa using hne
            have h1'' : (x != 1) = true := by simpa using hne
            go_wp2
            go_roundw
            case rel => exact ⟨A + 1, by go_num, by omega, by omega, Lib.hid fun a h1 h2 h3 => by
              by_cases e : a = A
              · subst e; rw [HHL.out, HN3.out] at h3; exact absurd (HX.out.symm.trans h3) hne
              · exact HE.out a h1 (by omega) h3, hb6⟩
            case measure => simp [intOf]; omega
        · go_wp2
          go_ret
          exact ⟨⟨false, rfl, by simp; exact HIR.out fun a h1 h2 h3 => HE.out a h1 (by omega) h3⟩, below_two hbw hb⟩
end Go.Proofs.Ytkkefbjmdbjbhaa
