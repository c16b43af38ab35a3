/- The contracts of lockwrightkeep.divides, poly.Gcd. -/
import Derived.Test.YtfgmnlphejpcaaaGcdM
import Derived.Test.YtfgmnlphejpcaaaDiv
namespace Go.Proofs.Ytfgmnlphejpcaaa
open Go.RowKit
set_option linter.unusedVariables false
set_option linter.unusedSimpArgs false
set_option maxRecDepth 20000 in
set_option maxHeartbeats 1600000 in
theorem keep_divides (p : Int) (a b : Option Addr) (c d : Nat) (xs ys : List Int) (w : World) {La Lb : Nat} (g1 : Good p xs) (g2 : Good p ys) (h1 : RowL w a c xs) (h2 : RowL w b d ys) (h0 : 0 < Lb) (e1 : xs.length = La) (e2 : ys.length = Lb) {t : Bool} (ht : dvB p ys xs = t) :
    Calls Try.prog 20 #[.int .i64 p, .slice b Lb d, .slice a La c] w fun e w' => e = .returned (.bool t) ∧ Below w.heap.size w w' := by
  have HD := Lib.hid (poly_Div p a b c d xs ys w g1 g2 h1 h2 (by omega))
  have HV := Lib.hid fun q r (h : DivInv p xs ys q r) (hr : r.length < ys.length) => dv_rem g1 g2 (by omega) h hr
  rw [e1, e2] at HD
  rw [e2] at HV
  have HT := Lib.hid ht
  clear h0 e1 e2 g1 g2 h1 h2 ht
  go_enter Try.func20, Try.ntmps20
  go_wp2_with fail
  refine HD.out.mono ?_
  rintro e w2 ⟨⟨aq, ar, cq, cr, qs, rs, rfl, hq, hr, hd, hlt⟩, hb2⟩
  have hv := HV.out qs rs hd hlt
  clear hq hr hd hlt
  by_cases hz : rs.length = 0
  · have HR : Hid (t = true) := Lib.hid (by rw [← HT.out]; exact dvB_yes (hv.1 hz))
    rw [hz]
    clear hv hz
    go_wp2
    go_ret
    exact ⟨by rw [HR.out]; rfl, hb2⟩
  · have HR : Hid (t = false) := Lib.hid (by rw [← HT.out]; exact dvB_no fun e => hz (hv.2 e))
    obtain ⟨n, hn⟩ : ∃ n, rs.length = n + 1 := ⟨rs.length - 1, by omega⟩
    rw [hn]
    have q1 : (((n + 1 : Nat) : Int) == 0) = false := by simp; omega
    clear hv hz hn
    go_wp2
    go_ret
    refine ⟨by rw [HR.out]; exact ret_bool (by simp; try omega), hb2⟩
set_option maxRecDepth 20000 in
set_option maxHeartbeats 3200000 in
theorem poly_Gcd (p : Int) (a b : Option Addr) (c d : Nat) (xs ys : List Int) (w : World) {La Lb : Nat} (g1 : Good p xs) (g2 : Good p ys) (h1 : RowL w a c xs) (h2 : RowL w b d ys) (e1 : xs.length = La) (e2 : ys.length = Lb) :
    Calls Try.prog 19 #[.int .i64 p, .slice a La c, .slice b Lb d] w fun e w' =>
      (∃ (ag : Option Addr) (cg : Nat) (gs : List Int), e = .returned (.tuple #[.slice ag gs.length cg, .int .i64 0]) ∧ RowL w' ag cg gs ∧ ((La = 0 ∧ Lb = 0 → gs.length = 0) ∧ (¬ (La = 0 ∧ Lb = 0) → GcdPost p xs ys gs))) ∧ Below w.heap.size w w' := by
  have hB := poly_both p a b c d xs ys w h1 h2 (by have := g1.len; unfold maxLen; omega) (by have := g2.len; unfold maxLen; omega)
  rw [bothE_zero.2 ⟨g1, g2⟩, e1, e2] at hB
  have HB := Lib.hid hB
  have hp := g1.prime
  have HI := Lib.hid (ginv_init g1 g2)
  have HSt := Lib.hid fun A B q r => ginv_step (p := p) (xs := xs) (ys := ys) (A := A) (B := B) (q := q) (r := r) (by omega)
  have HEnd := Lib.hid fun A B h => gcd_end (A := A) (B := B) (ys := ys) g1 h
  have HO := Lib.hid fun (A B : List Int) aa ab ca cb w' (h : GInv p xs ys A B) (h1 : RowL w' aa ca A) (h2 : RowL w' ab cb B) (h0 : 0 < B.length) => poly_Over p aa ab ca cb A B w' hp.1 hp.2.1 hp.2.2 h1 h2 (by have := h.an; omega) (by have := h.bn; omega) h.ar h.br h.al h.bl h0
  have HInv := Lib.hid fun x w (h1 : 1 ≤ x) (h2 : x < p) => poly_inverse x p w h1 h2 hp.2.1 hp.2.2
  have HPl := Lib.hid fun (A : List Int) aa ca (k : Int) w' (hk : 0 ≤ k ∧ k < p) (h1 : RowL w' aa ca A) (hl : A.length ≤ 13) (hr : ∀ x ∈ A, 0 ≤ x ∧ x < p) => poly_Plus p k 0 none aa 0 ca [] A w' (by omega) hp.2.1 (by omega) (by omega) (by omega) (RowL.nil w') h1 (by simp) (by omega) (fun x hx => by simp at hx) hr
  have HR1 := Lib.hid h1
  have HR2 := Lib.hid h2
  have E1 := Lib.hid e1
  have E2 := Lib.hid e2
  have p1 := hp.1
  have p2 := hp.2.1
  have n1 : La ≤ 13 := by rw [← e1]; exact g1.len
  have n2 : Lb ≤ 13 := by rw [← e2]; exact g2.len
  simp only [List.length_nil] at HPl
  clear hB g1 g2 h1 h2 hp e1 e2
  go_enter Try.func19, Try.ntmps19
  go_wp2_with fail
  refine HB.out.mono ?_
  rintro e w1 ⟨rfl, hb1⟩
  have hr1 := HR1.out.below hb1 (Nat.le_refl _)
  have hr2 := HR2.out.below hb1 (Nat.le_refl _)
  go_wp2
  rw [← E1.out, ← E2.out]
  go_loopw [1, 2] (fun va vb wr => ∃ (A B : List Int) (aa ab : Option Addr) (ca cb : Nat), va = .slice aa A.length ca ∧ vb = .slice ab B.length cb ∧ GInv p xs ys A B ∧ RowL wr aa ca A ∧ RowL wr ab cb B ∧ Below w.heap.size w wr) (fun _ vb _ => match vb with | .slice _ k _ => k | _ => 0)
  case atStart => exact ⟨xs, ys, a, b, c, d, rfl, rfl, HI.out, hr1, hr2, hb1⟩
  case round =>
    clear hr1 hr2 hb1
    obtain ⟨A, B, aa, ab, ca, cb, rfl, rfl, hg, ha, hbr, hb⟩ := hrel
    obtain ⟨na, hna⟩ : ∃ n, A.length = n := ⟨_, rfl⟩
    obtain ⟨nb, hnb⟩ : ∃ n, B.length = n := ⟨_, rfl⟩
    have l3 := hg.an
    have l4 := hg.bn
    rw [hna] at l3
    rw [hnb] at l4
    by_cases hlt : 0 < nb
    · have HC := Lib.hid (HO.out A B aa ab ca cb wr hg ha hbr (by omega))
      have HG := Lib.hid hg
      have HBR := Lib.hid hbr
      have HNB := Lib.hid hnb
      rw [hna, hnb] at HC
      rw [hna, hnb]
      clear hg ha hbr hna hnb
      go_wp2_with fail
      refine HC.out.mono ?_
      rintro e w2 ⟨⟨aq, ar, cq, cr, qs, rs, rfl, hq, hr, hd, hl2⟩, hb2⟩
      have HD := Lib.hid hd
      have HL := Lib.hid hl2
      clear hd hl2 hq
      go_wp2
      rw [← HNB.out]
      go_round
      case rel => exact ⟨B, rs, ab, ar, cb, cr, rfl, rfl, HSt.out A B qs rs HG.out HD.out (by rw [HNB.out]; exact HL.out), HBR.out.below hb2 (Nat.le_refl _), hr, below_two hb hb2⟩
      case measure => have := HL.out; have := HNB.out; simp; omega
    · obtain rfl : nb = 0 := by omega
      rcases Nat.eq_zero_or_pos na with rfl | hpos
      · have HF : Hid ((La = 0 ∧ Lb = 0 → 0 = 0) ∧ (¬ (La = 0 ∧ Lb = 0) → GcdPost p xs ys [])) := Lib.hid ⟨fun _ => rfl, fun h => absurd ⟨hna, hnb⟩ (hg.ne (by rw [E1.out, E2.out]; exact h))⟩
        rw [hna, hnb]
        clear hg ha hbr hna hnb
        go_wp2
        go_ret2
        exact ⟨⟨none, 0, [], rfl, RowL.nil _, by simpa using HF.out⟩, hb⟩
      · obtain ⟨n, rfl⟩ : ∃ n, na = n + 1 := ⟨na - 1, by omega⟩
        obtain ⟨x, hx⟩ : ∃ x, A[n]? = some x := ⟨_, List.getElem?_eq_getElem (by omega)⟩
        obtain ⟨b2, o2, rfl, hcell⟩ := ha.shape (by omega)
        have kx := hcell n x hx
        have hxr := hg.ar x (List.mem_of_getElem? hx)
        have hxl : x ≠ 0 := by have := hg.al; rw [getLastD_at hx hna] at this; exact this
        have hxc : co A (A.length - 1) = x := by unfold co; rw [hna, Nat.add_sub_cancel, List.getD_eq_getElem?_getD, hx]; rfl
        have HEm : Hid (¬ (La = 0 ∧ Lb = 0)) := Lib.hid fun h => by have := hg.em (by rw [E1.out, E2.out]; exact h); omega
        have HE2 := Lib.hid (HEnd.out A B hg hnb (by omega))
        rw [hxc] at HE2
        have HA := Lib.hid ha
        have HRg := Lib.hid hg.ar
        have HNA := Lib.hid hna
        obtain ⟨x1, x2⟩ := hxr
        have x3 : 1 ≤ x := by omega
        rw [hna, hnb]
        clear hg ha hbr hnb hcell hx hxc hxl hpos hna
        go_wp2_with fail
        refine (HInv.out x _ x3 x2).mono ?_
        rintro e w2 ⟨⟨y, rfl, y1, y2, y3⟩, hb2⟩
        have HF := Lib.hid (HE2.out y ⟨y1, y2⟩ y3)
        have HP := Lib.hid (HPl.out A _ ca y w2 ⟨y1, y2⟩ (HA.out.below hb2 (Nat.le_refl _)) (by rw [HNA.out]; exact l3) HRg.out)
        rw [HNA.out] at HP
        clear y3
        go_wp2_with fail
        refine HP.out.mono ?_
        rintro e w3 ⟨⟨ag, cg, rfl, hgr⟩, hb3⟩
        go_wp2
        go_ret2
        exact ⟨⟨ag, cg, _, rfl, hgr, fun h => absurd h HEm.out, fun _ => HF.out⟩, below_two (below_two hb hb2) hb3⟩
set_option maxRecDepth 20000 in
set_option maxHeartbeats 1600000 in
theorem poly_Gcd_bad (p : Int) (a b : Option Addr) (c d : Nat) (xs ys : List Int) (w : World) {La Lb : Nat} (h0 : bothE p xs ys ≠ 0) (h1 : RowL w a c xs) (h2 : RowL w b d ys) (e1 : xs.length = La) (e2 : ys.length = Lb) (l1 : La ≤ 9223372036854775807) (l2 : Lb ≤ 9223372036854775807) :
    Calls Try.prog 19 #[.int .i64 p, .slice a La c, .slice b Lb d] w fun e w' => (∃ t, t ≠ 0 ∧ e = .returned (.tuple #[.slice none 0 0, .int .i64 t])) ∧ Below w.heap.size w w' := by
  have hB := poly_both p a b c d xs ys w h1 h2 (by rw [e1]; exact l1) (by rw [e2]; exact l2)
  rw [e1, e2] at hB
  obtain ⟨t, ht⟩ : ∃ t, bothE p xs ys = t := ⟨_, rfl⟩
  rw [ht] at hB h0
  have HB := Lib.hid hB
  have H0 := Lib.hid h0
  have q1 : (t == 0) = false := by simpa using h0
  have q2 : (t != 0) = true := by simpa using h0
  clear hB h0 h1 h2 e1 e2 ht
  go_enter Try.func19, Try.ntmps19
  go_wp2_with fail
  refine HB.out.mono ?_
  rintro e w1 ⟨rfl, hb1⟩
  go_wp2
  go_ret2
  exact ⟨⟨t, H0.out, rfl⟩, hb1⟩
end Go.Proofs.Ytfgmnlphejpcaaa
