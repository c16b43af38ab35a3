/- The contract of (*asked).shared. -/
import Derived.Test.YtgmkmlfppblpfaaSms
import Derived.Test.YtgmkmlfppblpfaaGrp5
import Derived.Test.YtgmkmlfppblpfaaTk4
import Derived.Deep.RegionHeld
namespace Go.Proofs.Ytgmkmlfppblpfaa
open Go.RowKit
set_option linter.unusedVariables false
set_option linter.unusedSimpArgs false
/-- the block of what is asked: a group, and nothing wrong -/
structure AskAt (W : World) (b : Nat) (P Q G H : Int) : Prop where
  lt : b < W.heap.size
  c0 : W.cell? ⟨b, 0, none⟩ = some (.int .i64 P)
  c1 : W.cell? ⟨b, 1, none⟩ = some (.int .i64 Q)
  c2 : W.cell? ⟨b, 2, none⟩ = some (.int .i64 G)
  c3 : W.cell? ⟨b, 3, none⟩ = some (.int .i64 H)
  c4 : W.cell? ⟨b, 4, none⟩ = some (.int .i64 0)
  fr : W.frozen? ⟨b, 4, none⟩ = false
/-- all but one block is kept -/
def But (b B : Nat) (w w' : World) : Prop := Below B w w' ∧ w.heap.size ≤ w'.heap.size ∧ ∀ a : Addr, a.block < w.heap.size → a.block ≠ b → w'.cell? a = w.cell? a
set_option maxRecDepth 20000 in
set_option maxHeartbeats 1600000 in
theorem asked_shared (P Q G H k t : Int) (b B : Nat) (w : World) (ha : AskAt w b P Q G H) (hB : B ≤ b) (hs : shE P Q G H k t = 0) :
    Calls Try.prog 51 #[.pointer (some ⟨b, 0, none⟩), .int .i64 k, .int .i64 t] w fun e w' => e = .returned (.int .i64 (pw t k P)) ∧ AskAt w' b P Q G H ∧ But b B w w' := by
  obtain ⟨hb, a0, a1, a2, a3, a4, a5⟩ := ha
  have HS := Lib.hid hs
  clear hs
  go_enter Try.func51, Try.ntmps51
  go_wp2_with fail
  refine (group_Shared P Q G H k t _ HS.out).mono ?_
  rintro e w1 ⟨rfl, hb1⟩
  have z1 := hb1.size
  have b0 := kept hb1 a0 hb
  have b1 := kept hb1 a1 hb
  have b2 := kept hb1 a2 hb
  have b3 := kept hb1 a3 hb
  have b4 := kept hb1 a4 hb
  have b5 := frozK hb1 hb a5
  go_wp2
  go_ret
  have e0 : ∀ j : Nat, j ≠ 4 → (w1.setCell ⟨b, 4, none⟩ (.int .i64 0)).cell? ⟨b, j, none⟩ = w1.cell? ⟨b, j, none⟩ := fun j hj => by
    have hne : (⟨b, 4, none⟩ : Addr) ≠ ⟨b, j, none⟩ := fun e => hj (by injection e with _ e2 _; exact e2.symm)
    rw [World.cell?_setCell_other (a := (⟨b, 4, none⟩ : Addr)) (b := (⟨b, j, none⟩ : Addr)) (h := hne)]
  refine ⟨rfl, ⟨by simp; omega, (e0 0 (by omega)).trans b0, (e0 1 (by omega)).trans b1, (e0 2 (by omega)).trans b2, (e0 3 (by omega)).trans b3, World.cell?_setCell_same' _ _ _ (by simp [b4]), by rw [World.frozen?_setCell]; exact b5⟩, ?_, by simp; omega, fun a ha hne => ?_⟩
  · exact (hb1.mono (by omega)).setCell (p := ⟨b, 4, none⟩) hB _
  · rw [World.cell?_setCell_far _ _ _ _ (by exact fun e => hne e.symm)]
    exact hb1.cell ha
end Go.Proofs.Ytgmkmlfppblpfaa
