/- The contracts of poly.Times, poly.Add, poly.Mul. -/
import Derived.Test.YtkkefbjmdbjbhaaPolM
namespace Go.Proofs.Ytkkefbjmdbjbhaa
open Go.RowKit
set_option linter.unusedVariables false
set_option linter.unusedSimpArgs false
set_option maxRecDepth 20000 in
set_option maxHeartbeats 3200000 in
theorem poly_Times (p : Int) (a b : Option Addr) (c d : Nat) (xs ys : List Int) (w : World) (hp : 1 ≤ p) (hp2 : p ≤ 251) (h1 : RowL w a c xs) (h2 : RowL w b d ys) (l1 : xs.length ≤ 400) (l2 : ys.length ≤ 400)
    (x1 : ∀ x ∈ xs, 0 ≤ x ∧ x < p) (x2 : ∀ x ∈ ys, 0 ≤ x ∧ x < p) :
    Calls Try.prog 27 #[.int .i64 p, .slice a xs.length c, .slice b ys.length d] w fun e w' => (∃ a' c', e = .returned (.slice a' (timesL p xs ys).length c') ∧ RowL w' a' c' (timesL p xs ys)) ∧ Below w.heap.size w w' := by
  have HT := Lib.hid (show timesL p xs ys = timesTo p xs ys xs.length from rfl)
  have HS := Lib.hid (fun I => show plusL p (timesTo p xs ys I) ys (co xs I) I = timesTo p xs ys (I + 1) from rfl)
  have HN := Lib.hid (timesTo_len p xs ys)
  have HG := Lib.hid (timesTo_rng (p := p) (a := xs) (b := ys) hp)
  have HR1 := Lib.hid h1
  have HR2 := Lib.hid h2
  have HX1 := Lib.hid x1
  have HX2 := Lib.hid x2
  have HP := Lib.hid fun (k : Int) (up : Nat) (r : Option Addr) (e : Nat) (zs : List Int) (w' : World) (hk : 0 ≤ k ∧ k < p) (hu : up ≤ 1000) (hr : RowL w' r e zs) (hw : RowL w' b d ys) (l3 : zs.length ≤ 1000) (x3 : ∀ x ∈ zs, 0 ≤ x ∧ x < p) => poly_Plus p k up r b e d zs ys w' hp hp2 (by omega) (by omega) hu hr hw l3 (by omega) x3 x2
  obtain ⟨La, hLa⟩ : ∃ L, xs.length = L := ⟨_, rfl⟩
  obtain ⟨Lb, hLb⟩ : ∃ L, ys.length = L := ⟨_, rfl⟩
  have HLa := Lib.hid hLa
  have HLb := Lib.hid hLb
  rw [hLa] at l1 HT ⊢
  rw [hLb] at l2 HP HN ⊢
  clear hLa hLb h1 h2 x1 x2
  go_enter Try.func27, Try.ntmps27
  go_wp2
  go_loopw [12, 7] (fun s o wr => ∃ (I : Nat) (r : Option Addr) (k : Nat), s = .int .i64 I ∧ o = .slice r (timesTo p xs ys I).length k ∧ I ≤ La ∧ Below w.heap.size w wr ∧ RowL wr r k (timesTo p xs ys I)) (fun s _ _ => La - (intOf s).toNat)
  case atStart => exact ⟨0, none, 0, rfl, rfl, Nat.zero_le _, Below.refl _ _, RowL.nil _⟩
  case round =>
    obtain ⟨I, r, k, rfl, rfl, hI, hb, hr⟩ := hrel
    by_cases hlt : I < La
    · obtain ⟨x, hx⟩ : ∃ x, xs[I]? = some x := ⟨_, List.getElem?_eq_getElem (by rw [HLa.out]; omega)⟩
      obtain ⟨bb, o, rfl, hcell⟩ := (HR1.out.below hb (Nat.le_refl _)).shape (by rw [HLa.out]; omega)
      have kx := hcell I x hx
      have hxm := HX1.out x (List.mem_of_getElem? hx)
      have hS := HS.out I
      rw [show co xs I = x by unfold co; rw [List.getD_eq_getElem?_getD, hx]; rfl] at hS
      have hN := HN.out I
      have HC := Lib.hid (HP.out x I r k _ wr hxm (by omega) hr (HR2.out.below hb (Nat.le_refl _)) (by omega) (HG.out I))
      rw [hS] at HC
      obtain ⟨M, hM⟩ : ∃ M, (timesTo p xs ys I).length = M := ⟨_, rfl⟩
      rw [hM] at HC ⊢
      clear hcell hx hS hN hM hr
      obtain ⟨hx3, hx4⟩ := hxm
      go_wp2_with fail
      refine HC.out.mono ?_
      rintro e w2 ⟨⟨r2, k2, rfl, hr2⟩, hb2⟩
      go_wp2
      go_round
      case rel => exact ⟨I + 1, r2, k2, by go_num, rfl, by omega, below_two hb hb2, hr2⟩
      case measure => simp [intOf]; omega
    · obtain rfl : I = La := by omega
      go_wp2
      go_ret
      refine ⟨⟨r, k, ?_, ?_⟩, hb⟩
      · rw [HT.out]; rfl
      · rw [HT.out]; exact hr
/-- a sum, and a product, or nothing -/
noncomputable def addL (p : Int) (xs ys : List Int) : List Int := if bothE p xs ys = 0 then plusL p xs ys 1 0 else []
noncomputable def mulL (p : Int) (xs ys : List Int) : List Int := if bothE p xs ys = 0 then timesL p xs ys else []
end Go.Proofs.Ytkkefbjmdbjbhaa
