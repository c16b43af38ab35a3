/- tree.Root. -/
import Derived.Test.YtpikjahgnnejmaaTrR
namespace Go.Proofs.Ytpikjahgnnejmaa
open Go.RowKit
set_option linter.unusedVariables false
set_option linter.unusedSimpArgs false
/-- what Prove does with a row -/
def stpP (s : Nat × List Nat) (row : List Nat) : Nat × List Nat := (s.1 / 2, if (s.1 ^^^ 1) < row.length then s.2 ++ [row.getD (s.1 ^^^ 1) 0] else s.2)
theorem runS_climb : ∀ (f : Nat) (row : List Nat) (i : Nat) (acc : List Nat), (runS stpP f row (i, acc)).1 = (climb f row i acc).1 ∧ (runS stpP f row (i, acc)).2.2 = (climb f row i acc).2
  | 0, row, i, acc => ⟨rfl, rfl⟩
  | f + 1, row, i, acc => by
    show ((if row.length ≤ 1 then _ else _ : Nat × (Nat × List Nat)).1 = (if row.length ≤ 1 then _ else _ : Nat × List Nat).1) ∧ ((if row.length ≤ 1 then _ else _ : Nat × (Nat × List Nat)).2.2 = (if row.length ≤ 1 then _ else _ : Nat × List Nat).2)
    by_cases h : row.length ≤ 1
    · rw [if_pos h, if_pos h]; exact ⟨rfl, rfl⟩
    · rw [if_neg h, if_neg h]
      exact runS_climb f (upL row) (i / 2) _
theorem runS_root {σ : Type} (stp : σ → List Nat → σ) : ∀ (f : Nat) (row : List Nat) (s : σ) (i : Nat) (acc : List Nat), (runS stp f row s).1 = (climb f row i acc).1
  | 0, row, s, i, acc => rfl
  | f + 1, row, s, i, acc => by
    show (if row.length ≤ 1 then _ else _ : Nat × σ).1 = (if row.length ≤ 1 then _ else _ : Nat × List Nat).1
    by_cases h : row.length ≤ 1
    · rw [if_pos h, if_pos h]
    · rw [if_neg h, if_neg h]
      exact runS_root stp f (upL row) _ _ _
def rootN (z : List (List Nat)) : Nat := (climb 64 (z.map leafS) 0 []).1
theorem matB_below {W W' : World} {a : Option Addr} {len cap : Nat} {z : List (List Nat)} (h : IsMatB W a len cap z) (hb : Below W.heap.size W W') : IsMatB W' a len cap z := by
  obtain ⟨h1, h2, ⟨R, h3⟩, h4⟩ := h
  exact ⟨h1, h2, ⟨R, h3.below hb (Nat.le_refl _)⟩, h4⟩
theorem root_visits (w : World) (base : Nat) : Visits (fun (_ : Unit) (_ : List Nat) => ()) (fun _ ob W => ob = none ∧ Below w.heap.size w W) 40 #[] base (fun _ => 0) := by
  refine ⟨(fun _ _ => by omega), (fun args w => by kernel_rfl), fun s ob W W' h hb => ⟨h.1, h.2.trans (hb.mono h.2.size)⟩, (fun s ob W k h e => by rw [h.1] at e; cases e), ?_⟩
  intro s ob W g L cp xs _ hJ _ _ _ _ _ _ _ _
  have HJ := Lib.hid hJ
  clear hJ
  show Calls Try.prog 40 #[.slice (some ⟨g, 0, none⟩) L cp] W _
  go_enter Try.func40, Try.ntmps40
  go_wp2
  go_end0
  exact ⟨⟨_, rfl⟩, ob, HJ.out, .inl rfl, Nat.le_refl _, fun _ _ _ _ => rfl⟩
set_option maxHeartbeats 1600000 in
theorem tree_Root (a : Option Addr) (len cap : Nat) (z : List (List Nat)) (w : World) (h : IsMatB w a len cap z) :
    Calls Try.prog 21 #[.slice a len cap] w fun e w' => e = .returned (.tuple #[.int .u32 (if leafsE z = 0 then rootN z else 0 : Nat), .int .i64 (leafsE z : Nat)]) ∧ Below w.heap.size w w' := by
  have HW := Lib.hid (tree_wrong a len cap z w h)
  by_cases hE : leafsE z = 0
  · have HRW : Hid (∀ W, Below w.heap.size w W → Calls Try.prog 39 #[.slice a len cap, .func (.func 40) #[] #[]] W fun e w' => e = .returned (.int .u32 (rootN z : Nat)) ∧ Below w.heap.size w w') := Lib.hid fun W hb => by
      refine (tree_rows (fun (_ : Unit) (_ : List Nat) => ()) (fun _ ob W => ob = none ∧ Below w.heap.size w W) 40 #[] () none a len cap z W (fun _ => 0) rfl (root_visits w _) (matB_below h hb) hE ⟨rfl, hb⟩).mono ?_
      rintro e w' ⟨ob, rfl, hJ⟩
      exact ⟨by rw [runS_root _ 64 _ _ 0 []]; rfl, hJ.2⟩
    rw [if_pos hE]
    rw [hE] at HW ⊢
    obtain ⟨q, hq⟩ : ∃ q, rootN z = q := ⟨_, rfl⟩
    rw [hq] at HRW ⊢
    clear h hE hq
    go_enter Try.func21, Try.ntmps21
    go_wp2_with fail
    refine HW.out.mono ?_
    rintro e w1 ⟨rfl, hb1⟩
    have HC := Lib.hid (HRW.out w1 hb1)
    clear hb1
    go_wp2_with fail
    refine HC.out.mono ?_
    rintro e w2 ⟨rfl, hb2⟩
    go_wp2
    go_ret2
    exact ⟨rfl, hb2⟩
  · rw [if_neg hE]
    obtain ⟨q, hq⟩ : ∃ q, leafsE z = q := ⟨_, rfl⟩
    rw [hq] at HW hE ⊢
    clear h hq
    have e1 : ((q : Int) != 0) = true := by simp; omega
    have e2 : ((q : Int) == 0) = false := by simp; omega
    go_enter Try.func21, Try.ntmps21
    go_wp2_with fail
    refine HW.out.mono ?_
    rintro e w1 ⟨rfl, hb1⟩
    go_wp2
    go_ret2
    exact ⟨rfl, hb1⟩
end Go.Proofs.Ytpikjahgnnejmaa
