/- The contracts of poly.Times, poly.Add, poly.Mul. -/
import Derived.Test.YtfgmnlphejpcaaaPolM
namespace Go.Proofs.Ytfgmnlphejpcaaa
open Go.RowKit
set_option linter.unusedVariables false
set_option linter.unusedSimpArgs false
set_option maxRecDepth 20000 in
set_option maxHeartbeats 3200000 in
theorem poly_Times (p : Int) (a b : Option Addr) (c d : Nat) (xs ys : List Int) (w : World) (hp : 1 ≤ p) (hp2 : p ≤ 251) (h1 : RowL w a c xs) (h2 : RowL w b d ys) (l1 : xs.length ≤ 400) (l2 : ys.length ≤ 400)
    (x1 : ∀ x ∈ xs, 0 ≤ x ∧ x < p) (x2 : ∀ x ∈ ys, 0 ≤ x ∧ x < p) :
    Calls Try.prog 43 #[.int .i64 p, .slice a xs.length c, .slice b ys.length d] w fun e w' => (∃ a' c', e = .returned (.slice a' (timesL p xs ys).length c') ∧ RowL w' a' c' (timesL p xs ys)) ∧ Below w.heap.size w w' := by
  have HT := Lib.hid (show timesL p xs ys = timesTo p xs ys xs.length from rfl)
  have HS := Lib.hid (fun I => show plusL p (timesTo p xs ys I) ys (co xs I) I = timesTo p xs ys (I + 1) from rfl)
  have HN := Lib.hid (timesTo_len p xs ys)
  have HG := Lib.hid (timesTo_rng (p := p) (a := xs) (b := ys) hp)
  have HR1 := Lib.hid h1
  have HR2 := Lib.hid h2
  have HX1 := Lib.hid x1
  have HX2 := Lib.hid x2
  have HP := Lib.hid fun (k : Int) (up : Nat) (r : Option Addr) (e : Nat) (zs : List Int) (w' : World) (hk : 0 ≤ k ∧ k < p) (hu : up ≤ 1000) (hr : RowL w' r e zs) (hw : RowL w' b d ys) (l3 : zs.length ≤ 1000) (x3 : ∀ x ∈ zs, 0 ≤ x ∧ x < p) => poly_Plus p k up r b e d zs ys w' hp hp2 (by omega) (by omega) hu hr hw l3 (by omega) x3 x2
  obtain ⟨La, hLa⟩ : ∃ L, xs.length = L := ⟨_, rfl⟩
  obtain ⟨Lb, hLb⟩ : ∃ L, ys.length = L := ⟨_, rfl⟩
  have HLa := Lib.hid hLa
  have HLb := Lib.hid hLb
  rw [hLa] at l1 HT ⊢
  rw [hLb] at l2 HP HN ⊢
  clear hLa hLb h1 h2 x1 x2
  go_enter Try.func43, Try.ntmps43
  go_wp2
  go_loopw [12, 7] (fun s o wr => ∃ (I : Nat) (r : Option Addr) (k : Nat), s = .int .i64 I ∧ o = .slice r (timesTo p xs ys I).length k ∧ I ≤ La ∧ Below w.heap.size w wr ∧ RowL wr r k (timesTo p xs ys I)) (fun s _ _ => La - (intOf s).toNat)
  case atStart => exact ⟨0, none, 0, rfl, rfl, Nat.zero_le _, Below.refl _ _, RowL.nil _⟩
  case round =>
    obtain ⟨I, r, k, rfl, rfl, hI, hb, hr⟩ := hrel
    by_cases hlt : I < La
    · obtain ⟨x, hx⟩ : ∃ x, xs[I]? = some x := ⟨_, List.getElem?_eq_getElem (by rw [HLa.out]; omega)⟩
      obtain ⟨bb, o, rfl, hcell⟩ := (HR1.out.below hb (Nat.le_refl _)).shape (by rw [HLa.out]; omega)
      have kx := hcell I x hx
      have hxm := HX1.out x (List.mem_of_getElem? hx)
      have hS := HS.out I
      rw [show co xs I = x by unfold co; rw [List.getD_eq_getElem?_getD, hx]; rfl] at hS
      have hN := HN.out I
      have HC := Lib.hid (HP.out x I r k _ wr hxm (by omega) hr (HR2.out.below hb (Nat.le_refl _)) (by omega) (HG.out I))
      rw [hS] at HC
      obtain ⟨M, hM⟩ : ∃ M, (timesTo p xs ys I).length = M := ⟨_, rfl⟩
      rw [hM] at HC ⊢
      clear hcell hx hS hN hM hr
      obtain ⟨hx3, hx4⟩ := hxm
      go_wp2_with fail
      refine HC.out.mono ?_
      rintro e w2 ⟨⟨r2, k2, rfl, hr2⟩, hb2⟩
      go_wp2
      go_round
      case rel => exact ⟨I + 1, r2, k2, by go_num, rfl, by omega, below_two hb hb2, hr2⟩
      case measure => simp [intOf]; omega
    · obtain rfl : I = La := by omega
      go_wp2
      go_ret
      refine ⟨⟨r, k, ?_, ?_⟩, hb⟩
      · rw [HT.out]; rfl
      · rw [HT.out]; exact hr
/-- a sum, and a product, or nothing -/
noncomputable def addL (p : Int) (xs ys : List Int) : List Int := if bothE p xs ys = 0 then plusL p xs ys 1 0 else []
noncomputable def mulL (p : Int) (xs ys : List Int) : List Int := if bothE p xs ys = 0 then timesL p xs ys else []
set_option maxRecDepth 20000 in
set_option maxHeartbeats 1600000 in
theorem poly_Add (p : Int) (a b : Option Addr) (c d : Nat) (xs ys : List Int) (w : World) (h1 : RowL w a c xs) (h2 : RowL w b d ys) (l1 : xs.length ≤ maxLen) (l2 : ys.length ≤ maxLen) :
    Calls Try.prog 17 #[.int .i64 p, .slice a xs.length c, .slice b ys.length d] w fun e w' => (∃ a' c', e = .returned (.tuple #[.slice a' (addL p xs ys).length c', .int .i64 (bothE p xs ys)]) ∧ RowL w' a' c' (addL p xs ys)) ∧ Below w.heap.size w w' := by
  have HB := Lib.hid (poly_both p a b c d xs ys w h1 h2 l1 l2)
  have HR1 := Lib.hid h1
  have HR2 := Lib.hid h2
  by_cases h0 : bothE p xs ys = 0
  · obtain ⟨g1, g2⟩ := bothE_zero.1 h0
    have HP := Lib.hid fun (w' : World) (hr : RowL w' a c xs) (hw : RowL w' b d ys) => poly_Plus p 1 0 a b c d xs ys w' (by have := g1.prime; omega) g1.prime.2.1 (by omega) (by omega) (by omega) hr hw (by have := g1.len; omega) (by have := g2.len; omega) g1.rng g2.rng
    rw [show addL p xs ys = plusL p xs ys 1 0 by unfold addL; rw [if_pos h0]]
    rw [h0] at HB ⊢
    obtain ⟨zs, hzs⟩ : ∃ z, plusL p xs ys 1 0 = z := ⟨_, rfl⟩
    obtain ⟨La, hLa⟩ : ∃ L, xs.length = L := ⟨_, rfl⟩
    obtain ⟨Lb, hLb⟩ : ∃ L, ys.length = L := ⟨_, rfl⟩
    rw [hzs, hLa, hLb] at HP
    rw [hLa, hLb] at HB ⊢
    rw [hzs]
    clear g1 g2 h0 hzs hLa hLb h1 h2 l1 l2
    go_enter Try.func17, Try.ntmps17
    go_wp2_with fail
    refine HB.out.mono ?_
    rintro e w1 ⟨rfl, hb1⟩
    go_wp2_with fail
    refine (HP.out _ (HR1.out.below hb1 (Nat.le_refl _)) (HR2.out.below hb1 (Nat.le_refl _))).mono ?_
    rintro e w2 ⟨⟨r2, k2, rfl, hr2⟩, hb2⟩
    go_wp2
    go_ret2
    exact ⟨⟨_, _, rfl, hr2⟩, below_two hb1 hb2⟩
  · rw [show addL p xs ys = [] by unfold addL; rw [if_neg h0]]
    obtain ⟨t, ht⟩ : ∃ t, bothE p xs ys = t := ⟨_, rfl⟩
    obtain ⟨La, hLa⟩ : ∃ L, xs.length = L := ⟨_, rfl⟩
    obtain ⟨Lb, hLb⟩ : ∃ L, ys.length = L := ⟨_, rfl⟩
    rw [ht, hLa, hLb] at HB
    rw [ht] at h0
    rw [ht, hLa, hLb]
    have e1 : (t == 0) = false := by simpa using h0
    have e2 : (t != 0) = true := by simpa using h0
    clear h0 ht hLa hLb h1 h2 l1 l2
    go_enter Try.func17, Try.ntmps17
    go_wp2_with fail
    refine HB.out.mono ?_
    rintro e w1 ⟨rfl, hb1⟩
    go_wp2
    go_ret2
    exact ⟨⟨none, 0, rfl, RowL.nil _⟩, hb1⟩
set_option maxRecDepth 20000 in
set_option maxHeartbeats 1600000 in
theorem poly_Mul (p : Int) (a b : Option Addr) (c d : Nat) (xs ys : List Int) (w : World) (h1 : RowL w a c xs) (h2 : RowL w b d ys) (l1 : xs.length ≤ maxLen) (l2 : ys.length ≤ maxLen) :
    Calls Try.prog 16 #[.int .i64 p, .slice a xs.length c, .slice b ys.length d] w fun e w' => (∃ a' c', e = .returned (.tuple #[.slice a' (mulL p xs ys).length c', .int .i64 (bothE p xs ys)]) ∧ RowL w' a' c' (mulL p xs ys)) ∧ Below w.heap.size w w' := by
  have HB := Lib.hid (poly_both p a b c d xs ys w h1 h2 l1 l2)
  have HR1 := Lib.hid h1
  have HR2 := Lib.hid h2
  by_cases h0 : bothE p xs ys = 0
  · obtain ⟨g1, g2⟩ := bothE_zero.1 h0
    have HP := Lib.hid fun (w' : World) (hr : RowL w' a c xs) (hw : RowL w' b d ys) => poly_Times p a b c d xs ys w' (by have := g1.prime; omega) g1.prime.2.1 hr hw (by have := g1.len; omega) (by have := g2.len; omega) g1.rng g2.rng
    rw [show mulL p xs ys = timesL p xs ys by unfold mulL; rw [if_pos h0]]
    rw [h0] at HB ⊢
    obtain ⟨zs, hzs⟩ : ∃ z, timesL p xs ys = z := ⟨_, rfl⟩
    obtain ⟨La, hLa⟩ : ∃ L, xs.length = L := ⟨_, rfl⟩
    obtain ⟨Lb, hLb⟩ : ∃ L, ys.length = L := ⟨_, rfl⟩
    rw [hzs, hLa, hLb] at HP
    rw [hLa, hLb] at HB ⊢
    rw [hzs]
    clear g1 g2 h0 hzs hLa hLb h1 h2 l1 l2
    go_enter Try.func16, Try.ntmps16
    go_wp2_with fail
    refine HB.out.mono ?_
    rintro e w1 ⟨rfl, hb1⟩
    go_wp2_with fail
    refine (HP.out _ (HR1.out.below hb1 (Nat.le_refl _)) (HR2.out.below hb1 (Nat.le_refl _))).mono ?_
    rintro e w2 ⟨⟨r2, k2, rfl, hr2⟩, hb2⟩
    go_wp2
    go_ret2
    exact ⟨⟨_, _, rfl, hr2⟩, below_two hb1 hb2⟩
  · rw [show mulL p xs ys = [] by unfold mulL; rw [if_neg h0]]
    obtain ⟨t, ht⟩ : ∃ t, bothE p xs ys = t := ⟨_, rfl⟩
    obtain ⟨La, hLa⟩ : ∃ L, xs.length = L := ⟨_, rfl⟩
    obtain ⟨Lb, hLb⟩ : ∃ L, ys.length = L := ⟨_, rfl⟩
    rw [ht, hLa, hLb] at HB
    rw [ht] at h0
    rw [ht, hLa, hLb]
    have e1 : (t == 0) = false := by simpa using h0
    have e2 : (t != 0) = true := by simpa using h0
    clear h0 ht hLa hLb h1 h2 l1 l2
    go_enter Try.func16, Try.ntmps16
    go_wp2_with fail
    refine HB.out.mono ?_
    rintro e w1 ⟨rfl, hb1⟩
    go_wp2
    go_ret2
    exact ⟨⟨none, 0, rfl, RowL.nil _⟩, hb1⟩
end Go.Proofs.Ytfgmnlphejpcaaa
