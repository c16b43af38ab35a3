/- tree.Check. -/
import Derived.Test.YtpikjahgnnejmaaTxT
namespace Go.Proofs.Ytpikjahgnnejmaa
open Go.RowKit
set_option linter.unusedVariables false
set_option linter.unusedSimpArgs false
/-- does a leaf lead to a root? -/
def ckB (n i : Nat) (xs ps : List Nat) (root : Int) : Bool := match txO n i xs ps with
  | none => false
  | some l => ((lastSum 0 (some (0 :: xs) :: l) : Nat) : Int) == root
set_option maxHeartbeats 1600000 in
theorem tree_Check_bad (root n i : Int) (a b : Option Addr) (c d L P : Nat) (w : World) (hn : -9223372036854775808 ≤ n ∧ n ≤ 9223372036854775807) (hi : -9223372036854775808 ≤ i ∧ i ≤ 9223372036854775807) (hL : L ≤ 9223372036854775807) (hP : P ≤ 9223372036854775807) (hE : placeE n i L P ≠ 0) :
    Calls Try.prog 24 #[.int .u32 root, .int .i64 n, .int .i64 i, .slice a L c, .slice b P d] w fun e w' => (∃ t : Int, t ≠ 0 ∧ e = .returned (.tuple #[.bool false, .int .i64 t])) ∧ Below w.heap.size w w' := by
  have HW := Lib.hid fun W => place_wrong n i a b L c P d W hn hi hL hP
  obtain ⟨E, hEe⟩ : ∃ E, placeE n i L P = E := ⟨_, rfl⟩
  rw [hEe] at HW hE
  have e1 : ((E : Int) != 0) = true := by simp; omega
  have e2 : ((E : Int) == 0) = false := by simp; omega
  clear hEe
  go_enter Try.func24, Try.ntmps24
  go_wp2_with fail
  refine (HW.out _).mono ?_
  rintro e w1 ⟨rfl, hb1⟩
  have hbb := below_two ((Below.refl _ _).alloc (Nat.le_refl _) _) hb1
  clear hb1
  go_wp2
  go_ret2
  exact ⟨⟨E, by omega, rfl⟩, hbb⟩
theorem placeE_ok {n i : Nat} {L P : Nat} (h1 : 1 ≤ n) (h2 : n ≤ 64) (h3 : i < n) (h4 : L < 4096) (h5 : P ≤ 64) : placeE n i L P = 0 := by
  unfold placeE
  rw [if_neg (by omega), if_neg (by omega)]
set_option maxHeartbeats 1600000 in
theorem tree_Check (root : Int) (n i : Nat) (a b : Option Addr) (c d : Nat) (xs ps : List Nat) (w : World) (h1 : RowB w a c xs) (h2 : RowK .u32 w b (nK ps)) (hn : 1 ≤ n) (hn2 : n ≤ 64) (hi : i < n) (hx : xs.length < 4096) (hx2 : ∀ x ∈ xs, x < 256) (hp : ps.length ≤ 64) (hp2 : ∀ x ∈ ps, x ≤ 4294967295) (hd : ps.length ≤ d) (hd2 : d ≤ maxLen) :
    Calls Try.prog 24 #[.int .u32 root, .int .i64 n, .int .i64 i, .slice a xs.length c, .slice b ps.length d] w fun e w' => e = .returned (.tuple #[.bool (ckB n i xs ps root), .int .i64 0]) ∧ Below w.heap.size w w' := by
  have HW := Lib.hid fun W => place_wrong n i a b xs.length c ps.length d W (by omega) (by omega) (by omega) (by omega)
  rw [placeE_ok hn hn2 hi hx hp] at HW
  have HT := Lib.hid fun W hb => place_texts n i a b c d xs ps W (h1.below (B := w.heap.size) hb (Nat.le_refl _)) (h2.below (B := w.heap.size) hb (Nat.le_refl _)) hn hn2 hi hx hx2 hp hp2 hd hd2
  obtain ⟨B, hB⟩ : ∃ B, ckB n i xs ps root = B := ⟨_, rfl⟩
  have HB := Lib.hid hB
  rw [hB]
  obtain ⟨L, hL⟩ : ∃ L, xs.length = L := ⟨_, rfl⟩
  obtain ⟨P, hP⟩ : ∃ P, ps.length = P := ⟨_, rfl⟩
  rw [hL, hP] at HW HT
  rw [hL, hP]
  clear h1 h2 hx hx2 hp hp2 hd hd2 hB hL hP
  go_enter Try.func24, Try.ntmps24
  go_wp2_with fail
  refine (HW.out _).mono ?_
  rintro e w1 ⟨rfl, hb1⟩
  have k0 := kept hb1 (b := w.heap.size) (o := 0) (v := .int .i64 n) (by simp [go_sem]) (by simp)
  have k1 := kept hb1 (b := w.heap.size) (o := 1) (v := .int .i64 i) (by simp [go_sem]) (by simp)
  have hbb := below_two ((Below.refl _ _).alloc (Nat.le_refl _) _) hb1
  have HC := Lib.hid (HT.out w1 hbb)
  have HBB := Lib.hid hbb
  clear hb1 hbb
  go_wp2_with fail
  refine HC.out.mono ?_
  rintro e w2 ⟨h, hb2⟩
  have hbw := below_two HBB.out hb2
  rcases h with ⟨v, rfl, hx⟩ | ⟨l, g, cap, vs, hx, hl, rfl, htx⟩
  · have HBF : Hid (B = false) := Lib.hid (by rw [← HB.out]; unfold ckB; rw [hx])
    clear hx hb2
    go_wp2
    go_ret2
    exact ⟨by rw [HBF.out]; rfl, hbw⟩
  · have HBF : Hid (B = (((lastSum 0 (some (0 :: xs) :: l) : Nat) : Int) == root)) := Lib.hid (by rw [← HB.out]; unfold ckB; rw [hx])
    have HND := Lib.hid (tree_node _ g cap (l.length + 1) vs (some (0 :: xs) :: l) w2 htx (by simp) (by omega))
    have HBW := Lib.hid hbw
    obtain ⟨q, hq⟩ : ∃ q, lastSum 0 (some (0 :: xs) :: l) = q := ⟨_, rfl⟩
    rw [hq] at HND HBF
    obtain ⟨m, hm⟩ : ∃ m, l.length + 1 = m := ⟨_, rfl⟩
    rw [hm] at HND ⊢
    clear hx hb2 hbw htx hq hm
    go_wp2_with fail
    refine HND.out.mono ?_
    rintro e w3 ⟨rfl, hb3⟩
    have hbx := below_two HBW.out hb3
    go_wp2
    go_ret2
    exact ⟨by rw [HBF.out]; rfl, hbx⟩
theorem own_rowK {W : World} {base : Nat} {v : Value} {ps : List Nat} (h : W.ownsRow base 23 1 v ps.length (u32V ps)) : ∃ a c, v = .slice a ps.length c ∧ RowK .u32 W a (nK ps) ∧ ps.length ≤ c ∧ c ≤ maxLen := by
  by_cases h0 : ps.length = 0
  · have hp : ps = [] := List.length_eq_zero_iff.1 h0
    subst hp
    rcases h.2 with ⟨h1, _⟩ | ⟨g, cap, cur, h1, h2, h3, h4, h5, _⟩
    · exact ⟨none, 0, h1, ⟨fun _ => rfl, (fun ad e => by cases e)⟩, Nat.le_refl _, by unfold maxLen; omega⟩
    · exact ⟨_, cap, h1, ⟨fun _ => rfl, fun ad e i x hx => by simp [nK] at hx⟩, h4, h5⟩
  · obtain ⟨g, c, e, _, _, h3, h4⟩ := own_shape h (by omega)
    rw [e] at h
    refine ⟨_, c, e, ⟨fun e => (by cases e), fun ad e i x hx => ?_⟩, h3, h4⟩
    cases e
    rw [add_at]
    simp only [nK, List.getElem?_map] at hx
    obtain ⟨y, hy, rfl⟩ := Option.map_eq_some_iff.1 hx
    exact own_cell h (by simp [u32V, hy])
end Go.Proofs.Ytpikjahgnnejmaa
