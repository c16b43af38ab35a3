/- tree.Prove, whole. -/
import Derived.Test.YtpikjahgnnejmaaTrQ
namespace Go.Proofs.Ytpikjahgnnejmaa
open Go.RowKit
set_option linter.unusedVariables false
set_option linter.unusedSimpArgs false
theorem prove_visits (w : World) (bi bl base : Nat) (hbi : w.heap.size ≤ bi) (hbl : bi < bl) (hbase : bl < base) : Visits stpP (PrJ w bi bl) 41 #[.pointer (some ⟨bi, 0, none⟩), .pointer (some ⟨bl, 0, none⟩)] base (fun s => s.2.length) := by
  refine ⟨(fun s xs => ?_), (fun args w => by kernel_rfl), (fun s ob W W' h hb => ?_), (fun s ob W k h e => ?_), fun s ob W g L cp xs h1 h2 h3 h4 h5 h6 h7 h8 h9 h10 => prove_visit w bi bl base hbi hbl hbase s ob W g L cp xs h1 h2 h3 h4 h5 h6 h7 h8 h9 h10⟩
  · unfold stpP
    simp only
    split
    · simp
    · omega
  · obtain ⟨v, hI, hob⟩ := h
    exact ⟨v, hI.below hI.bel.size hb, hob⟩
  · obtain ⟨v, hI, hob⟩ := h
    rw [← hob] at e
    exact (own_block_lt hI.own e).1
def proofN (z : List (List Nat)) (i : Nat) : List Nat := (climb 64 (z.map leafS) i []).2
theorem leafsE_len {z : List (List Nat)} (hE : leafsE z = 0) : 1 ≤ z.length ∧ z.length ≤ 64 ∧ z.any longB = false := by
  unfold leafsE at hE
  split at hE
  · omega
  · split at hE
    · omega
    · rename_i h1 h2
      refine ⟨by omega, by omega, ?_⟩
      cases hq : z.any longB with
      | false => rfl
      | true => exact absurd (.inr hq) h2
set_option maxHeartbeats 1600000 in
theorem tree_Prove_bad (a : Option Addr) (len cap : Nat) (z : List (List Nat)) (i : Int) (w : World) (h : IsMatB w a len cap z) (hbad : leafsE z ≠ 0 ∨ i < 0 ∨ (len : Int) ≤ i) :
    Calls Try.prog 22 #[.slice a len cap, .int .i64 i] w fun e w' => (∃ t : Int, t ≠ 0 ∧ e = .returned (.tuple #[.slice none 0 0, .int .i64 t])) ∧ Below w.heap.size w w' := by
  have HW := Lib.hid fun W hb => tree_wrong a len cap z W (matB_below h hb)
  obtain ⟨q, hq⟩ : ∃ q, leafsE z = q := ⟨_, rfl⟩
  rw [hq] at HW hbad
  clear h hq
  by_cases hE : q = 0
  · subst hE
    by_cases h0 : i < 0
    · have d1 : decide (i < 0) = true := decide_eq_true h0
      go_enter Try.func22, Try.ntmps22
      go_wp2_with fail
      refine (HW.out _ ((Below.refl _ _).alloc (Nat.le_refl _) _)).mono ?_
      rintro e w1 ⟨rfl, hb1⟩
      have c0 := kept hb1 (b := w.heap.size) (o := 0) (v := .int .i64 i) (by simp [go_sem]) (by simp)
      have hbb := below_two ((Below.refl _ _).alloc (Nat.le_refl _) _) hb1
      clear hb1
      go_wp2
      go_ret2
      exact ⟨⟨3, by omega, rfl⟩, hbb⟩
    · have h1 : (len : Int) ≤ i := by omega
      have d1 : decide (i < 0) = false := decide_eq_false h0
      have d2 : decide ((len : Int) ≤ i) = true := decide_eq_true h1
      clear hbad h0
      go_enter Try.func22, Try.ntmps22
      go_wp2_with fail
      refine (HW.out _ ((Below.refl _ _).alloc (Nat.le_refl _) _)).mono ?_
      rintro e w1 ⟨rfl, hb1⟩
      have c0 := kept hb1 (b := w.heap.size) (o := 0) (v := .int .i64 i) (by simp [go_sem]) (by simp)
      have hbb := below_two ((Below.refl _ _).alloc (Nat.le_refl _) _) hb1
      clear hb1
      go_wp2
      go_ret2
      exact ⟨⟨3, by omega, rfl⟩, hbb⟩
  · have e1 : ((q : Int) != 0) = true := by simp; omega
    have e2 : ((q : Int) == 0) = false := by simp; omega
    clear hbad
    go_enter Try.func22, Try.ntmps22
    go_wp2_with fail
    refine (HW.out _ ((Below.refl _ _).alloc (Nat.le_refl _) _)).mono ?_
    rintro e w1 ⟨rfl, hb1⟩
    have hbb := below_two ((Below.refl _ _).alloc (Nat.le_refl _) _) hb1
    clear hb1
    go_wp2
    go_ret2
    exact ⟨⟨q, by omega, rfl⟩, hbb⟩
set_option maxHeartbeats 1600000 in
theorem tree_Prove (a : Option Addr) (len cap i : Nat) (z : List (List Nat)) (w : World) (h : IsMatB w a len cap z) (hE : leafsE z = 0) (hi : i < len) :
    Calls Try.prog 22 #[.slice a len cap, .int .i64 i] w fun e w' => (∃ v, e = .returned (.tuple #[v, .int .i64 0]) ∧ w'.ownsRow w.heap.size 23 1 v (proofN z i).length (u32V (proofN z i))) ∧ Below w.heap.size w w' := by
  have HW := Lib.hid fun W hb => tree_wrong a len cap z W (matB_below h hb)
  have hlen : len ≤ 64 := by have := (leafsE_len hE).2.1; have := h.1; omega
  have HRW := Lib.hid fun W bi bl (hb : Below w.heap.size w W) (h1 : w.heap.size ≤ bi) (h2 : bi < bl) (h3 : bl < W.heap.size) (hJ : PrJ w bi bl (i, []) none W) =>
    tree_rows stpP (PrJ w bi bl) 41 #[.pointer (some ⟨bi, 0, none⟩), .pointer (some ⟨bl, 0, none⟩)] (i, []) none a len cap z W (fun s => s.2.length) rfl (prove_visits w bi bl W.heap.size h1 h2 h3) (matB_below h hb) hE hJ
  rw [hE] at HW
  have HPN : Hid ((runS stpP 64 (z.map leafS) (i, [])).2.2 = proofN z i) := Lib.hid (runS_climb 64 _ i []).2
  have d1 : decide ((i : Int) < 0) = false := decide_eq_false (by omega)
  have d2 : decide ((len : Int) ≤ (i : Int)) = false := decide_eq_false (by omega)
  clear h hE
  go_enter Try.func22, Try.ntmps22
  go_wp2_with fail
  refine (HW.out _ ((Below.refl _ _).alloc (Nat.le_refl _) _)).mono ?_
  rintro e w1 ⟨rfl, hb1⟩
  have hbx1 : Boxed w1 w.heap.size 3 (.int .i64 i) := (hb1.block w.heap.size (by simp)).trans (Boxed.new w 3 (.int .i64 i))
  have c0 := hbx1.cell
  have hbb := below_two ((Below.refl _ _).alloc (Nat.le_refl _) _) hb1
  have hz1 : w.heap.size + 1 ≤ w1.heap.size := by have := hb1.size; simpa using this
  have hJ : PrJ w w.heap.size w1.heap.size (i, []) none (w1.alloc (.cells #[.slice none 0 0] 44)) :=
    ⟨.slice none 0 0, ⟨hbb.alloc hbb.size _, hbx1.alloc _, Boxed.new w1 _ _, World.ownsRow_nil _ _ _ _, by show i ≤ 64; omega⟩, rfl⟩
  have HC := Lib.hid (HRW.out (w1.alloc (.cells #[.slice none 0 0] 44)) w.heap.size w1.heap.size (hbb.alloc hbb.size _) (Nat.le_refl _) (by omega) (by simp) hJ)
  clear hb1 hbx1 hJ
  go_wp2_with fail
  refine HC.out.mono ?_
  rintro e w2 ⟨ob, rfl, v, hI, hob⟩
  have cl := hI.l.cell
  have HI := Lib.hid hI
  clear hI hob
  go_wp2
  go_ret2
  refine ⟨⟨v, rfl, ?_⟩, HI.out.bel⟩
  have := own_le HI.out.own (show w.heap.size ≤ w1.heap.size + 1 by omega)
  rw [HPN.out] at this
  exact this
end Go.Proofs.Ytpikjahgnnejmaa
