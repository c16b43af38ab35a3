/- The contract of slices.Concat of two rows of bytes. -/
import Derived.Test.YtkodhpjmmiapaaaCat
namespace Go.Proofs.Ytkodhpjmmiapaaa
open Go.RowKit
set_option linter.unusedVariables false
set_option linter.unusedSimpArgs false
/-- a row of bytes behind an address -/
def RowB (W : World) (a : Option Addr) (c : Nat) (xs : List Nat) : Prop := (a = none → xs = [] ∧ c = 0) ∧ ∀ ad, a = some ad → ∀ (j : Nat) (u : Value), (byV xs)[j]? = some u → W.cell? (ad.add j) = some u
theorem RowB.below {W W' : World} {a : Option Addr} {c : Nat} {xs : List Nat} (h : RowB W a c xs) {B : Nat} (hb : Below B W W') (hB : W.heap.size ≤ B) : RowB W' a c xs :=
  ⟨h.1, fun ad e j u hu => by
    have k := h.2 ad e j u hu
    exact (hb.cell (p := ad.add j) (Nat.lt_of_lt_of_le (World.block_lt_of_cell? W _ k) hB)).trans k⟩
theorem byV_one (xs : List Nat) : ∀ u ∈ byV xs, u.oneCell' = true := by
  intro u hu; simp [byV] at hu; obtain ⟨x, _, rfl⟩ := hu; rfl
theorem byV_append (xs ys : List Nat) : byV (xs ++ ys) = byV xs ++ byV ys := by simp [byV]
theorem byV_len (xs : List Nat) : (byV xs).length = xs.length := by simp [byV]
set_option maxRecDepth 20000 in
set_option maxHeartbeats 3200000 in
theorem slices_Concat (b : Nat) (a1 a2 : Option Addr) (c1 c2 : Nat) (xs ys : List Nat) (w : World) (hb0 : b < w.heap.size)
    (k1 : w.cell? ⟨b, 0, none⟩ = some (.slice a1 xs.length c1)) (k2 : w.cell? ⟨b, 1, none⟩ = some (.slice a2 ys.length c2)) (h1 : RowB w a1 c1 xs) (h2 : RowB w a2 c2 ys) (h0 : 1 ≤ xs.length + ys.length) (hl : xs.length + ys.length ≤ 1048576) :
    Calls Try.prog 54 #[.slice (some ⟨b, 0, none⟩) 2 2] w fun e w' => ∃ v, e = .returned v ∧ Below w.heap.size w w' ∧ w'.ownsRow w.heap.size 5 1 v (xs.length + ys.length) (byV (xs ++ ys)) := by
  obtain ⟨L1, hL1⟩ : ∃ L, L = xs.length := ⟨_, rfl⟩
  obtain ⟨L2, hL2⟩ : ∃ L, L = ys.length := ⟨_, rfl⟩
  rw [← hL1] at k1 h0 hl ⊢
  rw [← hL2] at k2 h0 hl ⊢
  have HL1 := Lib.hid hL1
  have HL2 := Lib.hid hL2
  clear hL1 hL2
  go_enter Try.func54, Try.ntmps54
  have f1 : IntKind.i64.wrap ((L1 : Int) + L2) = (L1 : Int) + L2 := IntWalk.i64_in _ (by omega)
  have d1 : decide ((L1 : Int) < 0) = false := decide_eq_false (by omega)
  have d2 : decide ((L1 : Int) + L2 < 0) = false := decide_eq_false (by omega)
  have HGr : Hid (∀ w, Calls Try.prog 61 #[.slice none 0 0, .int .i64 ((L1 : Int) + L2)] w fun e w' => ∃ g cap, e = .returned (.slice (some ⟨g, 0, none⟩) 0 cap) ∧ L1 + L2 ≤ cap ∧ Below w.heap.size w w' ∧ w'.ownsRow w.heap.size 5 1 (.slice (some ⟨g, 0, none⟩) 0 cap) 0 []) := Lib.hid fun w => by
    rw [← Int.natCast_add]; exact slices_Grow (L1 + L2) w h0 hl
  go_wp2
  go_loopw [3, 11] (fun s i wr => ((i = .int .i64 0 ∧ s = .int .i64 0) ∨ (i = .int .i64 1 ∧ s = .int .i64 L1) ∨ (i = .int .i64 2 ∧ s = .int .i64 ((L1 : Int) + L2))) ∧ w = wr) (fun _ i _ => 2 - (intOf i).toNat)
  case atStart => exact ⟨.inl ⟨rfl, rfl⟩, rfl⟩
  case round =>
    obtain ⟨⟨rfl, rfl⟩ | ⟨rfl, rfl⟩ | ⟨rfl, rfl⟩, rfl⟩ := hrel
    · go_wp2
      go_round
      case rel => exact ⟨.inr (.inl ⟨by go_num, by go_num⟩), trivial⟩
      case measure => simp [intOf]
    · go_wp2
      go_round
      case rel => exact ⟨.inr (.inr ⟨by go_num, by go_num⟩), trivial⟩
      case measure => simp [intOf]
    · go_wp2_with fail
      refine (HGr.out _).mono ?_
      rintro e w1 ⟨g, cap, rfl, hcap, hb1, hr⟩
      obtain ⟨i0, hi, hz0, hz1, hz2⟩ := info_parts byte_info
      have hu : Try.prog.underlying 31 = some (.slice 5) := by kernel_rfl
      have zb := hb1.size
      go_wp2
      go_loopw [6, 27] (fun v i wr => ((i = .int .i64 0 ∧ v = .slice (some ⟨g, 0, none⟩) 0 cap ∧ wr.ownsRow w.heap.size 5 1 (.slice (some ⟨g, 0, none⟩) 0 cap) 0 []) ∨ (i = .int .i64 1 ∧ v = .slice (some ⟨g, 0, none⟩) L1 cap ∧ wr.ownsRow w.heap.size 5 1 (.slice (some ⟨g, 0, none⟩) L1 cap) L1 (byV xs)) ∨ (i = .int .i64 2 ∧ v = .slice (some ⟨g, 0, none⟩) (L1 + L2) cap ∧ wr.ownsRow w.heap.size 5 1 (.slice (some ⟨g, 0, none⟩) (L1 + L2) cap) (L1 + L2) (byV (xs ++ ys)))) ∧ Below w.heap.size w wr) (fun _ i _ => 2 - (intOf i).toNat)
      case atStart => exact ⟨.inl ⟨rfl, rfl, hr⟩, hb1⟩
      case round =>
        obtain ⟨⟨rfl, rfl, hr⟩ | ⟨rfl, rfl, hr⟩ | ⟨rfl, rfl, hr⟩, hb⟩ := hrel
        · have m1 := kept hb k1 hb0
          have m2 := kept hb k2 hb0
          have hx := h1.below hb (Nat.le_refl _)
          go_wp2_with (first
            | (at_builtin; refine wpList_append_fits_any _ rfl _ _ 31 rfl w.heap.size 5 i0 1 hu hi hz1 g 0 cap [] rfl hr a1 L1 c1 (byV xs) rfl (by rw [byV_len, Nat.mul_one]; exact HL1.out.symm) (fun e => ⟨by have := (hx.1 e).1; rw [HL1.out, this]; rfl, (hx.1 e).2⟩) (fun ad e => hx.2 ad e) (byV_one xs) (by omega) ?_; intro w2 hown' hg2))
          have s2 := hg2.size
          go_round
          case rel =>
            refine ⟨.inr (.inl ⟨by go_num, by simp, by simpa using hown'⟩), ?_⟩
            exact hb.grown hg2 (by have := hb.size; omega) (fun j hj => by cases hj; exact (hr.lt _ rfl).1)
          case measure => simp [intOf]
        · have m1 := kept hb k1 hb0
          have m2 := kept hb k2 hb0
          have hx := h2.below hb (Nat.le_refl _)
          go_wp2_with (first
            | (at_builtin; refine wpList_append_fits_any _ rfl _ _ 31 rfl w.heap.size 5 i0 1 hu hi hz1 g L1 cap (byV xs) rfl hr a2 L2 c2 (byV ys) rfl (by rw [byV_len, Nat.mul_one]; exact HL2.out.symm) (fun e => ⟨by have := (hx.1 e).1; rw [HL2.out, this]; rfl, (hx.1 e).2⟩) (fun ad e => hx.2 ad e) (byV_one ys) (by omega) ?_; intro w2 hown' hg2))
          have s2 := hg2.size
          go_round
          case rel =>
            refine ⟨.inr (.inr ⟨by go_num, rfl, by rw [byV_append]; exact hown'⟩), ?_⟩
            exact hb.grown hg2 (by have := hb.size; omega) (fun j hj => by cases hj; exact (hr.lt _ rfl).1)
          case measure => simp [intOf]
        · go_wp2
          go_ret
          exact ⟨_, rfl, hb, hr⟩
end Go.Proofs.Ytkodhpjmmiapaaa
