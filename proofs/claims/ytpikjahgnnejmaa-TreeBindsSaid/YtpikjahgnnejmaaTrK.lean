/- tree.Clash. -/
import Derived.Test.YtpikjahgnnejmaaTrC
import Derived.Test.YtpikjahgnnejmaaTrN
import Derived.Test.YtpikjahgnnejmaaMix
import Derived.Test.YtpikjahgnnejmaaHold
namespace Go.Proofs.Ytpikjahgnnejmaa
open Go.RowKit
set_option linter.unusedVariables false
set_option linter.unusedSimpArgs false
/-- what a clash answers, in plain words -/
def clashR (n i : Nat) (xs ps ys qs : List Nat) : Option (List Nat × List Nat) := match txO n i xs ps, txO n i ys qs with
  | some l, some m => if lastSum 0 (some (0 :: xs) :: l) = lastSum 0 (some (0 :: ys) :: m) ∧ xs ≠ ys then alike (some (0 :: xs) :: l) (some (0 :: ys) :: m) else none
  | _, _ => none
def ClPost (R : Option (List Nat × List Nat)) (w : World) (e : Ending) (w' : World) : Prop :=
  ((R = none ∧ ∃ t : Int, t ≠ 0 ∧ e = .returned (.tuple #[.slice none 0 0, .slice none 0 0, .int .i64 t])) ∨ ∃ (x y : List Nat) (ax ay : Option Addr) (cx cy : Nat), R = some (x, y) ∧ e = .returned (.tuple #[.slice ax x.length cx, .slice ay y.length cy, .int .i64 0]) ∧ RowB w' ax cx x ∧ RowB w' ay cy y) ∧ Below w.heap.size w w'
theorem textsL_five : ∀ (f n i h : Nat) (p : List Nat) (l : List (Option (List Nat))), textsL f n i h p = some l → ∀ t, some t ∈ l → t.length = 5
  | 0, n, i, h, p, l, e, t, ht => by
    unfold textsL at e
    split at e
    · cases e; cases ht
    · cases e
  | f + 1, n, i, h, p, l, e, t, ht => by
    unfold textsL at e
    by_cases h1 : n ≤ 1
    · rw [if_pos h1] at e
      split at e
      · cases e; cases ht
      · cases e
    · rw [if_neg h1] at e
      by_cases h2 : n ≤ (i ^^^ 1)
      · rw [if_pos h2] at e
        obtain ⟨l', q1, rfl⟩ := Option.map_eq_some_iff.1 e
        rcases List.mem_cons.1 ht with h | h
        · cases h
        · exact textsL_five f _ _ _ p l' q1 t h
      · rw [if_neg h2] at e
        cases p with
        | nil => cases e
        | cons a p =>
          simp only at e
          obtain ⟨l', q1, rfl⟩ := Option.map_eq_some_iff.1 e
          rcases List.mem_cons.1 ht with h | h
          · cases h
            split <;> rfl
          · exact textsL_five f _ _ _ p l' q1 t h
theorem textsL_same : ∀ (f n i h h' : Nat) (p q : List Nat) (l m : List (Option (List Nat))), textsL f n i h p = some l → textsL f n i h' q = some m → l.map Option.isSome = m.map Option.isSome
  | 0, n, i, h, h', p, q, l, m, e1, e2 => by
    unfold textsL at e1 e2
    split at e1
    · split at e2
      · cases e1; cases e2; rfl
      · cases e2
    · cases e1
  | f + 1, n, i, h, h', p, q, l, m, e1, e2 => by
    unfold textsL at e1 e2
    by_cases h1 : n ≤ 1
    · rw [if_pos h1] at e1 e2
      split at e1
      · split at e2
        · cases e1; cases e2; rfl
        · cases e2
      · cases e1
    · rw [if_neg h1] at e1 e2
      by_cases h2 : n ≤ (i ^^^ 1)
      · rw [if_pos h2] at e1 e2
        obtain ⟨l', q1, rfl⟩ := Option.map_eq_some_iff.1 e1
        obtain ⟨m', q2, rfl⟩ := Option.map_eq_some_iff.1 e2
        have := textsL_same f _ _ _ _ p q l' m' q1 q2
        simp [this]
      · rw [if_neg h2] at e1 e2
        cases p with
        | nil => cases e1
        | cons a p =>
          cases q with
          | nil => cases e2
          | cons b q =>
            simp only at e1 e2
            obtain ⟨l', q1, rfl⟩ := Option.map_eq_some_iff.1 e1
            obtain ⟨m', q2, rfl⟩ := Option.map_eq_some_iff.1 e2
            have := textsL_same f _ _ _ _ p q l' m' q1 q2
            simp [this]
theorem txO_texts {n i : Nat} {xs ps : List Nat} {l : List (Option (List Nat))} (h : txO n i xs ps = some l) : textsL 64 n i (leafS xs) ps = some l := by
  unfold txO at h
  split at h
  · cases h
  · exact h
theorem txO_small {n i : Nat} {xs ps : List Nat} {l : List (Option (List Nat))} (h : txO n i xs ps = some l) : ∀ x ∈ ps, x < 65536 := by
  unfold txO at h
  split at h
  · cases h
  · rename_i h1
    rw [Bool.not_eq_true, List.any_eq_false] at h1
    intro x hx
    have := h1 x hx
    simpa using this
theorem alike_mem : ∀ (l m : List (Option (List Nat))) (x y : List Nat), alike l m = some (x, y) → some x ∈ l ∧ some y ∈ m
  | some a :: X, some b :: Y, x, y, h => by
    have h' : (if sumN a = sumN b then some (a, b) else alike X Y) = some (x, y) := h
    split at h'
    · cases h'; simp
    · have := alike_mem X Y x y h'; simp [this]
  | none :: X, b :: Y, x, y, h => by
    have := alike_mem X Y x y h; simp [this]
  | some a :: X, none :: Y, x, y, h => by cases h
  | [], m, x, y, h => by cases m <;> cases h
  | some a :: X, [], x, y, h => by cases h
  | none :: X, [], x, y, h => by cases h
theorem clashR_short {n i : Nat} {xs ps ys qs x y : List Nat} (h : clashR n i xs ps ys qs = some (x, y)) (h1 : xs.length < 4096) (h2 : ys.length < 4096) : x.length ≤ 4096 ∧ y.length ≤ 4096 := by
  unfold clashR at h
  split at h
  · rename_i l m e1 e2
    split at h
    · obtain ⟨m1, m2⟩ := alike_mem _ _ x y h
      constructor
      · rcases List.mem_cons.1 m1 with h | h
        · cases h; simp; omega
        · have := textsL_five _ _ _ _ _ _ (txO_texts e1) x h; omega
      · rcases List.mem_cons.1 m2 with h | h
        · cases h; simp; omega
        · have := textsL_five _ _ _ _ _ _ (txO_texts e2) y h; omega
    · cases h
  · cases h
theorem alike_some {X Y : List (Option (List Nat))} {k : Nat} {x y : List Nat} (h1 : X[k]? = some (some x)) (h2 : Y[k]? = some (some y)) : alike (X.drop k) (Y.drop k) = if sumN x = sumN y then some (x, y) else alike (X.drop (k + 1)) (Y.drop (k + 1)) := by
  obtain ⟨l1, e1⟩ := List.getElem?_eq_some_iff.1 h1
  obtain ⟨l2, e2⟩ := List.getElem?_eq_some_iff.1 h2
  rw [List.drop_eq_getElem_cons l1, List.drop_eq_getElem_cons l2, e1, e2]
  rfl
theorem alike_none {X Y : List (Option (List Nat))} {k : Nat} (h1 : X[k]? = some none) (h2 : k < Y.length) : alike (X.drop k) (Y.drop k) = alike (X.drop (k + 1)) (Y.drop (k + 1)) := by
  obtain ⟨l1, e1⟩ := List.getElem?_eq_some_iff.1 h1
  rw [List.drop_eq_getElem_cons l1, List.drop_eq_getElem_cons h2, e1]
  rfl
set_option maxRecDepth 100000 in
set_option maxHeartbeats 6400000 in
theorem tree_Clash_bad (n i : Int) (a b a' b' : Option Addr) (c d c' d' L P L' P' : Nat) (w : World) (hn : -9223372036854775808 ≤ n ∧ n ≤ 9223372036854775807) (hi : -9223372036854775808 ≤ i ∧ i ≤ 9223372036854775807) (hL : L ≤ 9223372036854775807) (hP : P ≤ 9223372036854775807) (hL' : L' ≤ 9223372036854775807) (hP' : P' ≤ 9223372036854775807) (hE : placeE n i L P = 0) (hE' : placeE n i L' P' ≠ 0) :
    Calls Try.prog 25 #[.int .i64 n, .int .i64 i, .slice a L c, .slice b P d, .slice a' L' c', .slice b' P' d'] w fun e w' => ClPost none w e w' := by
  have HW1 := Lib.hid fun W => place_wrong n i a b L c P d W hn hi hL hP
  have HW2 := Lib.hid fun W => place_wrong n i a' b' L' c' P' d' W hn hi hL' hP'
  rw [hE] at HW1
  obtain ⟨E, hEe⟩ : ∃ E, placeE n i L' P' = E := ⟨_, rfl⟩
  rw [hEe] at HW2 hE'
  have e1 : ((E : Int) != 0) = true := by simp; omega
  have e2 : ((E : Int) == 0) = false := by simp; omega
  have ux : Try.prog.underlying 84 = some (.array 2 27) := by kernel_rfl
  have ix0 : ∀ W : World, (Instr.index 84 (.agg #[.int .i64 0, .int .i64 (E : Nat)]) (.int .i64 0)).run Try.prog W = .ok (.int .i64 0) W := fun W => by
    simp [Instr.index, run_underlying ux, asIntOf, go_sem]
  have ix1 : ∀ W : World, (Instr.index 84 (.agg #[.int .i64 0, .int .i64 (E : Nat)]) (.int .i64 1)).run Try.prog W = .ok (.int .i64 (E : Nat)) W := fun W => by
    simp [Instr.index, run_underlying ux, asIntOf, go_sem]
  have HE := Lib.hid hE'
  clear hEe hE hn hi hL hP hL' hP' hE'
  go_enter Try.func25, Try.ntmps25
  go_wp2_with fail
  obtain ⟨w0, hw0⟩ : ∃ W, W = w.alloc (.cells #[.int .i64 n, .int .i64 i] 79) := ⟨_, rfl⟩
  have k0 : w0.cell? ⟨w.heap.size, 0, none⟩ = some (.int .i64 n) := by rw [hw0]; simp [go_sem]
  have k1 : w0.cell? ⟨w.heap.size, 1, none⟩ = some (.int .i64 i) := by rw [hw0]; simp [go_sem]
  have hbw : Below w.heap.size w w0 := by rw [hw0]; exact (Below.refl _ _).alloc (Nat.le_refl _) _
  have hlt0 : w.heap.size < w0.heap.size := by rw [hw0]; simp
  rw [← hw0]
  clear hw0
  refine wp_region_D (S := (fun W : World => Below w0.heap.size w0 W)) (fun _ => true) (by kernel_rfl) (Below.refl _ _).drew (fun hHeld => ?_)
  simp only [List.size_toArray, List.length_cons, List.length_nil, Nat.reduceAdd, Array.replicate_succ, Array.replicate_zero, List.push_toArray, List.append_toArray, List.nil_append, List.cons_append]
  refine WD_free (i := 1) (oi := _) (v := ?_) rfl (by kernel_rfl) (fun _ _ _ h => h) (Or.inl ⟨by rfl, ?_⟩) ?_
  rotate_left
  · (intro W hS; (try dsimp only at hS); clear hS; go_simp; with_reducible rfl)
  try simp only [Act.put, List.getElem_toArray, List.getElem_cons_succ, List.getElem_cons_zero, List.setIfInBounds_toArray, List.set_cons_zero, List.set_cons_succ]
  refine WD_free (i := 2) (oi := _) (v := ?_) rfl (by kernel_rfl) (fun _ _ _ h => h) (Or.inl ⟨by rfl, ?_⟩) ?_
  rotate_left
  · (intro W hS; (try dsimp only at hS); clear hS; go_simp; with_reducible rfl)
  try simp only [Act.put, List.getElem_toArray, List.getElem_cons_succ, List.getElem_cons_zero, List.setIfInBounds_toArray, List.set_cons_zero, List.set_cons_succ]
  refine WD_free (i := 5) (oi := _) (v := ?_) rfl (by kernel_rfl) (fun _ _ _ h => h) (Or.inl ⟨by rfl, ?_⟩) ?_
  rotate_left
  · (intro W hS; (try dsimp only at hS); clear hS; go_simp; with_reducible rfl)
  try simp only [Act.put, List.getElem_toArray, List.getElem_cons_succ, List.getElem_cons_zero, List.setIfInBounds_toArray, List.set_cons_zero, List.set_cons_succ]
  refine WD_free (i := 6) (oi := _) (v := ?_) rfl (by kernel_rfl) (fun _ _ _ h => h) (Or.inl ⟨by rfl, ?_⟩) ?_
  rotate_left
  · (intro W hS; (try dsimp only at hS); clear hS; go_simp; with_reducible rfl)
  try simp only [Act.put, List.getElem_toArray, List.getElem_cons_succ, List.getElem_cons_zero, List.setIfInBounds_toArray, List.set_cons_zero, List.set_cons_succ]
  refine WD_free (i := 9) (oi := _) (v := ?_) rfl (by kernel_rfl) (fun _ _ _ h => h) (Or.inl ⟨by rfl, ?_⟩) ?_
  rotate_left
  · (intro W hS; (try dsimp only at hS); clear hS; go_simp; with_reducible rfl)
  try simp only [Act.put, List.getElem_toArray, List.getElem_cons_succ, List.getElem_cons_zero, List.setIfInBounds_toArray, List.set_cons_zero, List.set_cons_succ]
  refine WD_take (i := 0) (oi := _) (v := ?_) rfl (by kernel_rfl) (fun _ _ _ h => h) (Or.inl ⟨by rfl, ?_⟩) (by assumption) ?_
  rotate_left
  · (intro W hS; (try dsimp only at hS); have q0 := (hS.cell (p := ⟨w.heap.size, 0, none⟩) hlt0).trans k0; have q1 := (hS.cell (p := ⟨w.heap.size, 1, none⟩) hlt0).trans k1; clear hS; go_simp; with_reducible rfl)
  try simp only [Act.put, List.getElem_toArray, List.getElem_cons_succ, List.getElem_cons_zero, List.setIfInBounds_toArray, List.set_cons_zero, List.set_cons_succ]
  refine WD_take (i := 4) (oi := _) (v := ?_) rfl (by kernel_rfl) (fun _ _ _ h => h) (Or.inl ⟨by rfl, ?_⟩) (by assumption) ?_
  rotate_left
  · (intro W hS; (try dsimp only at hS); have q0 := (hS.cell (p := ⟨w.heap.size, 0, none⟩) hlt0).trans k0; have q1 := (hS.cell (p := ⟨w.heap.size, 1, none⟩) hlt0).trans k1; clear hS; go_simp; with_reducible rfl)
  try simp only [Act.put, List.getElem_toArray, List.getElem_cons_succ, List.getElem_cons_zero, List.setIfInBounds_toArray, List.set_cons_zero, List.set_cons_succ]
  refine WD_step (i := 3) (o := _) rfl (by kernel_rfl) (fun K hK => ?_)
  go_simp
  refine (HW1.out _).mono ?_
  rintro e w3 ⟨rfl, hb3⟩
  go_wp2_with fail
  replace hHeld := hHeld.trans (hb3.mono hHeld.size)
  refine hK.out _ _ (fun _ _ => hHeld) ?_
  clear hK K
  try simp only [Act.put, List.getElem_toArray, List.getElem_cons_succ, List.getElem_cons_zero, List.setIfInBounds_toArray, List.set_cons_zero, List.set_cons_succ]
  clear hb3
  refine WD_step (i := 7) (o := _) rfl (by kernel_rfl) (fun K hK => ?_)
  go_simp
  refine (HW2.out _).mono ?_
  rintro e w7 ⟨rfl, hb7⟩
  go_wp2_with fail
  replace hHeld := hHeld.trans (hb7.mono hHeld.size)
  refine hK.out _ _ (fun _ _ => hHeld) ?_
  clear hK K
  try simp only [Act.put, List.getElem_toArray, List.getElem_cons_succ, List.getElem_cons_zero, List.setIfInBounds_toArray, List.set_cons_zero, List.set_cons_succ]
  clear hb7
  refine WD_free (i := 8) (oi := _) (v := ?_) rfl (by kernel_rfl) (fun _ _ _ h => h) (Or.inl ⟨by rfl, ?_⟩) ?_
  rotate_left
  · (intro W hS; (try dsimp only at hS); clear hS; go_simp; with_reducible rfl)
  try simp only [Act.put, List.getElem_toArray, List.getElem_cons_succ, List.getElem_cons_zero, List.setIfInBounds_toArray, List.set_cons_zero, List.set_cons_succ]
  refine WD_done (by kernel_rfl) ?_ _

  have HBB := Lib.hid (below_two hbw hHeld)
  clear hHeld hbw k0 k1 hlt0
  go_wp2_with fail
  go_loopw [35] (fun i wr => ∃ I : Nat, i = .int .i64 I ∧ I < 2 ∧ Below w.heap.size w wr) (fun i _ => 2 - (intOf i).toNat)
  case atStart => exact ⟨0, rfl, by omega, HBB.out⟩
  case round =>
    obtain ⟨I, rfl, hI, hb⟩ := hrel
    have hc : I = 0 ∨ I = 1 := by omega
    rcases hc with rfl | rfl
    · go_wp2_with fail
      go_round
      case rel => exact ⟨1, by go_num, by omega, hb⟩
      case measure => simp [intOf]
    · go_wp2_with fail
      go_ret3
      exact ⟨.inl ⟨rfl, _, by have := HE.out; omega, rfl⟩, hb⟩
set_option maxRecDepth 100000 in
set_option maxHeartbeats 12800000 in
theorem tree_Clash (n i : Nat) (a b a' b' : Option Addr) (c d c' d' : Nat) (xs ps ys qs : List Nat) (w : World) (h1 : RowB w a c xs) (h2 : RowK .u32 w b (nK ps)) (h3 : RowB w a' c' ys) (h4 : RowK .u32 w b' (nK qs)) (hn : 1 ≤ n) (hn2 : n ≤ 64) (hi : i < n)
    (hx : xs.length < 4096) (hx2 : ∀ x ∈ xs, x < 256) (hp : ps.length ≤ 64) (hp2 : ∀ x ∈ ps, x ≤ 4294967295) (hd : ps.length ≤ d) (hd2 : d ≤ maxLen)
    (hy : ys.length < 4096) (hy2 : ∀ x ∈ ys, x < 256) (hq : qs.length ≤ 64) (hq2 : ∀ x ∈ qs, x ≤ 4294967295) (hd' : qs.length ≤ d') (hd2' : d' ≤ maxLen) :
    Calls Try.prog 25 #[.int .i64 n, .int .i64 i, .slice a xs.length c, .slice b ps.length d, .slice a' ys.length c', .slice b' qs.length d'] w fun e w' => ClPost (clashR n i xs ps ys qs) w e w' := by
  have HW1 := Lib.hid fun W => place_wrong n i a b xs.length c ps.length d W (by omega) (by omega) (by omega) (by omega)
  have HW2 := Lib.hid fun W => place_wrong n i a' b' ys.length c' qs.length d' W (by omega) (by omega) (by omega) (by omega)
  rw [placeE_ok hn hn2 hi hx hp] at HW1
  rw [placeE_ok hn hn2 hi hy hq] at HW2
  have HT1 := Lib.hid fun W hb => place_texts n i a b c d xs ps W (h1.below (B := w.heap.size) hb (Nat.le_refl _)) (h2.below (B := w.heap.size) hb (Nat.le_refl _)) hn hn2 hi hx hx2 hp hp2 hd hd2
  have HT2 := Lib.hid fun W hb => place_texts n i a' b' c' d' ys qs W (h3.below (B := w.heap.size) hb (Nat.le_refl _)) (h4.below (B := w.heap.size) hb (Nat.le_refl _)) hn hn2 hi hy hy2 hq hq2 hd' hd2'
  have HEQ := Lib.hid fun W (hb : Below w.heap.size w W) => bytes_Equal a a' c c' xs ys W (h1.below hb (Nat.le_refl _)) (h3.below hb (Nat.le_refl _)) hx2 hy2
  obtain ⟨R, hR⟩ : ∃ R, clashR n i xs ps ys qs = R := ⟨_, rfl⟩
  have HR := Lib.hid hR
  rw [hR]
  obtain ⟨L, hL⟩ : ∃ L, xs.length = L := ⟨_, rfl⟩
  obtain ⟨P, hP⟩ : ∃ P, ps.length = P := ⟨_, rfl⟩
  obtain ⟨L', hL'⟩ : ∃ L, ys.length = L := ⟨_, rfl⟩
  obtain ⟨P', hP'⟩ : ∃ P, qs.length = P := ⟨_, rfl⟩
  rw [hL, hP] at HW1 HT1
  rw [hL', hP'] at HW2 HT2
  rw [hL, hL'] at HEQ
  rw [hL, hP, hL', hP']
  have ux : Try.prog.underlying 84 = some (.array 2 27) := by kernel_rfl
  have ix0 : ∀ W : World, (Instr.index 84 (.agg #[.int .i64 0, .int .i64 0]) (.int .i64 0)).run Try.prog W = .ok (.int .i64 0) W := fun W => by
    simp [Instr.index, run_underlying ux, asIntOf, go_sem]
  have ix1 : ∀ W : World, (Instr.index 84 (.agg #[.int .i64 0, .int .i64 0]) (.int .i64 1)).run Try.prog W = .ok (.int .i64 0) W := fun W => by
    simp [Instr.index, run_underlying ux, asIntOf, go_sem]
  clear h1 h2 h3 h4 hx hx2 hp hp2 hd hd2 hy hy2 hq hq2 hd' hd2' hR hL hP hL' hP'
  go_enter Try.func25, Try.ntmps25
  go_wp2_with fail
  obtain ⟨w0, hw0⟩ : ∃ W, W = w.alloc (.cells #[.int .i64 n, .int .i64 i] 79) := ⟨_, rfl⟩
  have k0 : w0.cell? ⟨w.heap.size, 0, none⟩ = some (.int .i64 n) := by rw [hw0]; simp [go_sem]
  have k1 : w0.cell? ⟨w.heap.size, 1, none⟩ = some (.int .i64 i) := by rw [hw0]; simp [go_sem]
  have hbw : Below w.heap.size w w0 := by rw [hw0]; exact (Below.refl _ _).alloc (Nat.le_refl _) _
  have hlt0 : w.heap.size < w0.heap.size := by rw [hw0]; simp
  rw [← hw0]
  clear hw0
  refine wp_region_D (S := (fun W : World => Below w0.heap.size w0 W)) (fun _ => true) (by kernel_rfl) (Below.refl _ _).drew (fun hHeld => ?_)
  simp only [List.size_toArray, List.length_cons, List.length_nil, Nat.reduceAdd, Array.replicate_succ, Array.replicate_zero, List.push_toArray, List.append_toArray, List.nil_append, List.cons_append]
  refine WD_free (i := 1) (oi := _) (v := ?_) rfl (by kernel_rfl) (fun _ _ _ h => h) (Or.inl ⟨by rfl, ?_⟩) ?_
  rotate_left
  · (intro W hS; (try dsimp only at hS); clear hS; go_simp; with_reducible rfl)
  try simp only [Act.put, List.getElem_toArray, List.getElem_cons_succ, List.getElem_cons_zero, List.setIfInBounds_toArray, List.set_cons_zero, List.set_cons_succ]
  refine WD_free (i := 2) (oi := _) (v := ?_) rfl (by kernel_rfl) (fun _ _ _ h => h) (Or.inl ⟨by rfl, ?_⟩) ?_
  rotate_left
  · (intro W hS; (try dsimp only at hS); clear hS; go_simp; with_reducible rfl)
  try simp only [Act.put, List.getElem_toArray, List.getElem_cons_succ, List.getElem_cons_zero, List.setIfInBounds_toArray, List.set_cons_zero, List.set_cons_succ]
  refine WD_free (i := 5) (oi := _) (v := ?_) rfl (by kernel_rfl) (fun _ _ _ h => h) (Or.inl ⟨by rfl, ?_⟩) ?_
  rotate_left
  · (intro W hS; (try dsimp only at hS); clear hS; go_simp; with_reducible rfl)
  try simp only [Act.put, List.getElem_toArray, List.getElem_cons_succ, List.getElem_cons_zero, List.setIfInBounds_toArray, List.set_cons_zero, List.set_cons_succ]
  refine WD_free (i := 6) (oi := _) (v := ?_) rfl (by kernel_rfl) (fun _ _ _ h => h) (Or.inl ⟨by rfl, ?_⟩) ?_
  rotate_left
  · (intro W hS; (try dsimp only at hS); clear hS; go_simp; with_reducible rfl)
  try simp only [Act.put, List.getElem_toArray, List.getElem_cons_succ, List.getElem_cons_zero, List.setIfInBounds_toArray, List.set_cons_zero, List.set_cons_succ]
  refine WD_free (i := 9) (oi := _) (v := ?_) rfl (by kernel_rfl) (fun _ _ _ h => h) (Or.inl ⟨by rfl, ?_⟩) ?_
  rotate_left
  · (intro W hS; (try dsimp only at hS); clear hS; go_simp; with_reducible rfl)
  try simp only [Act.put, List.getElem_toArray, List.getElem_cons_succ, List.getElem_cons_zero, List.setIfInBounds_toArray, List.set_cons_zero, List.set_cons_succ]
  refine WD_take (i := 0) (oi := _) (v := ?_) rfl (by kernel_rfl) (fun _ _ _ h => h) (Or.inl ⟨by rfl, ?_⟩) (by assumption) ?_
  rotate_left
  · (intro W hS; (try dsimp only at hS); have q0 := (hS.cell (p := ⟨w.heap.size, 0, none⟩) hlt0).trans k0; have q1 := (hS.cell (p := ⟨w.heap.size, 1, none⟩) hlt0).trans k1; clear hS; go_simp; with_reducible rfl)
  try simp only [Act.put, List.getElem_toArray, List.getElem_cons_succ, List.getElem_cons_zero, List.setIfInBounds_toArray, List.set_cons_zero, List.set_cons_succ]
  refine WD_take (i := 4) (oi := _) (v := ?_) rfl (by kernel_rfl) (fun _ _ _ h => h) (Or.inl ⟨by rfl, ?_⟩) (by assumption) ?_
  rotate_left
  · (intro W hS; (try dsimp only at hS); have q0 := (hS.cell (p := ⟨w.heap.size, 0, none⟩) hlt0).trans k0; have q1 := (hS.cell (p := ⟨w.heap.size, 1, none⟩) hlt0).trans k1; clear hS; go_simp; with_reducible rfl)
  try simp only [Act.put, List.getElem_toArray, List.getElem_cons_succ, List.getElem_cons_zero, List.setIfInBounds_toArray, List.set_cons_zero, List.set_cons_succ]
  refine WD_step (i := 3) (o := _) rfl (by kernel_rfl) (fun K hK => ?_)
  go_simp
  refine (HW1.out _).mono ?_
  rintro e w3 ⟨rfl, hb3⟩
  go_wp2_with fail
  replace hHeld := hHeld.trans (hb3.mono hHeld.size)
  refine hK.out _ _ (fun _ _ => hHeld) ?_
  clear hK K
  try simp only [Act.put, List.getElem_toArray, List.getElem_cons_succ, List.getElem_cons_zero, List.setIfInBounds_toArray, List.set_cons_zero, List.set_cons_succ]
  clear hb3
  refine WD_step (i := 7) (o := _) rfl (by kernel_rfl) (fun K hK => ?_)
  go_simp
  refine (HW2.out _).mono ?_
  rintro e w7 ⟨rfl, hb7⟩
  go_wp2_with fail
  replace hHeld := hHeld.trans (hb7.mono hHeld.size)
  refine hK.out _ _ (fun _ _ => hHeld) ?_
  clear hK K
  try simp only [Act.put, List.getElem_toArray, List.getElem_cons_succ, List.getElem_cons_zero, List.setIfInBounds_toArray, List.set_cons_zero, List.set_cons_succ]
  clear hb7
  refine WD_free (i := 8) (oi := _) (v := ?_) rfl (by kernel_rfl) (fun _ _ _ h => h) (Or.inl ⟨by rfl, ?_⟩) ?_
  rotate_left
  · (intro W hS; (try dsimp only at hS); clear hS; go_simp; with_reducible rfl)
  try simp only [Act.put, List.getElem_toArray, List.getElem_cons_succ, List.getElem_cons_zero, List.setIfInBounds_toArray, List.set_cons_zero, List.set_cons_succ]
  refine WD_done (by kernel_rfl) ?_ _

  have HBB := Lib.hid hHeld
  clear hHeld
  have HBW := Lib.hid hbw
  clear hbw
  go_wp2_with fail
  go_loopw [35] (fun i wr => ∃ I : Nat, i = .int .i64 I ∧ I ≤ 2 ∧ Below w0.heap.size w0 wr) (fun i _ => 2 - (intOf i).toNat)
  case atStart => exact ⟨0, rfl, by omega, HBB.out⟩
  case round =>
    obtain ⟨I, rfl, hI, hb⟩ := hrel
    have hc : I = 0 ∨ I = 1 ∨ I = 2 := by omega
    rcases hc with rfl | rfl | rfl
    · go_wp2_with fail
      go_round
      case rel => exact ⟨1, by go_num, by omega, hb⟩
      case measure => simp [intOf]
    · go_wp2_with fail
      go_round
      case rel => exact ⟨2, by go_num, by omega, hb⟩
      case measure => simp [intOf]
    · have q0 := (hb.cell (p := ⟨w.heap.size, 0, none⟩) hlt0).trans k0
      have q1 := (hb.cell (p := ⟨w.heap.size, 1, none⟩) hlt0).trans k1
      have hlt1 : w.heap.size < wr.heap.size := by have := hb.size; omega
      have hbr := below_two HBW.out hb
      have HC := Lib.hid (HT1.out wr hbr)
      have HBR := Lib.hid hbr
      clear hb hI hbr HBB HBW k0 k1 hlt0
      go_wp2_with fail
      refine HC.out.mono ?_
      rintro e w2 ⟨ho1, hb2⟩
      have q0' := (hb2.cell (p := ⟨w.heap.size, 0, none⟩) hlt1).trans q0
      have q1' := (hb2.cell (p := ⟨w.heap.size, 1, none⟩) hlt1).trans q1
      have HB2 := Lib.hid (below_two HBR.out hb2)
      have HC2 := Lib.hid (HT2.out w2 HB2.out)
      clear hb2 q0 q1
      rcases ho1 with ⟨v, rfl, hx⟩ | ⟨l, g1, cap1, vs, hx, hl, rfl, htx⟩
      · have HN : Hid (R = none) := Lib.hid (by rw [← HR.out]; unfold clashR; rw [hx])
        clear hx
        go_wp2_with fail
        refine HC2.out.mono ?_
        rintro e w3 ⟨ho2, hb3⟩
        have HB3 := Lib.hid (below_two HB2.out hb3)
        clear hb3
        rcases ho2 with ⟨v2, rfl, hy⟩ | ⟨m, g2, cap2, us, hy, hm, rfl, hty⟩
        · clear hy
          go_wp2_with fail
          go_ret3
          exact ⟨.inl ⟨HN.out, _, by decide, rfl⟩, HB3.out⟩
        · clear hy hty
          go_wp2_with fail
          go_ret3
          exact ⟨.inl ⟨HN.out, _, by decide, rfl⟩, HB3.out⟩
      · have HX := Lib.hid hx
        have HTX := Lib.hid htx
        obtain ⟨lm, hlm⟩ : ∃ q, l.length + 1 = q := ⟨_, rfl⟩
        have HLM := Lib.hid hlm
        rw [hlm]
        clear hx htx hlm
        go_wp2_with fail
        refine HC2.out.mono ?_
        rintro e w3 ⟨ho2, hb3⟩
        have HB3 := Lib.hid (below_two HB2.out hb3)
        have HTX3 := Lib.hid (HTX.out.below hb3)
        clear hb3 HTX
        rcases ho2 with ⟨v2, rfl, hy⟩ | ⟨m, g2, cap2, us, hy, hm, rfl, hty⟩
        · have HN : Hid (R = none) := Lib.hid (by rw [← HR.out]; unfold clashR; rw [HX.out, hy])
          clear hy
          go_wp2_with fail
          go_ret3
          exact ⟨.inl ⟨HN.out, _, by decide, rfl⟩, HB3.out⟩
        · have hsame := textsL_same _ _ _ _ _ _ _ _ _ (txO_texts HX.out) (txO_texts hy)
          have hll : l.length = m.length := by have := congrArg List.length hsame; simpa using this
          have HSM : Hid ((some (0 :: xs) :: l).map Option.isSome = (some (0 :: ys) :: m).map Option.isSome) := Lib.hid (by simp [hsame])
          obtain ⟨X, hX⟩ : ∃ X, some (0 :: xs) :: l = X := ⟨_, rfl⟩
          obtain ⟨Y, hY⟩ : ∃ Y, some (0 :: ys) :: m = Y := ⟨_, rfl⟩
          have HRR : Hid (R = if lastSum 0 X = lastSum 0 Y ∧ xs ≠ ys then alike X Y else none) := Lib.hid (by rw [← HR.out, ← hX, ← hY]; unfold clashR; rw [HX.out, hy])
          have hXl : X.length = lm := by rw [← hX, ← HLM.out]; rfl
          have hYl : Y.length = lm := by rw [← hY, ← HLM.out, hll]; rfl
          have hml : m.length + 1 = lm := by rw [← HLM.out, hll]
          have hlm : lm ≤ 65 := by rw [← HLM.out]; omega
          rw [hX] at HTX3 HSM
          rw [hY] at HSM hty
          rw [hml]
          have HTY3 := Lib.hid hty
          have HXl := Lib.hid hXl
          have HYl := Lib.hid hYl
          have HN1 := Lib.hid (tree_node _ g1 cap1 lm vs X w3 HTX3.out hXl (by omega))
          have HN2 := Lib.hid fun W (hb : Below w3.heap.size w3 W) => tree_node _ g2 cap2 lm us Y W (hty.below hb) hYl (by omega)
          obtain ⟨s1, hs1⟩ : ∃ q, lastSum 0 X = q := ⟨_, rfl⟩
          obtain ⟨s2, hs2⟩ : ∃ q, lastSum 0 Y = q := ⟨_, rfl⟩
          rw [hs1] at HN1 HRR
          rw [hs2] at HN2 HRR
          clear hsame hll hX hY hXl hYl hml hy hty hs1 hs2 HX hl hm HR HLM HT1 HT2 HC HC2
          go_wp2_with fail
          refine HN1.out.mono ?_
          rintro e w4 ⟨rfl, hb4⟩
          have HM := Lib.hid (HN2.out w4 hb4)
          have HB4 := Lib.hid (below_two HB3.out hb4)
          have HTX4 := Lib.hid (HTX3.out.below hb4)
          have HTY4 := Lib.hid (HTY3.out.below hb4)
          clear hb4 HN2 HTX3 HTY3
          go_wp2_with fail
          refine HM.out.mono ?_
          rintro e w5 ⟨rfl, hb5⟩
          have HB5 := Lib.hid (below_two HB4.out hb5)
          have HTX5 := Lib.hid (HTX4.out.below hb5)
          have HTY5 := Lib.hid (HTY4.out.below hb5)
          have HE := Lib.hid (HEQ.out w5 HB5.out)
          clear hb5 HTX4 HTY4
          by_cases hs : s1 = s2
          · subst hs
            by_cases hxy : xs = ys
            · have HN : Hid (R = none) := Lib.hid (by rw [HRR.out, if_neg (fun h => h.2 hxy)])
              rw [show (xs == ys) = true by simpa using hxy] at HE
              clear hxy
              go_wp2_with fail
              refine HE.out.mono ?_
              rintro e w6 ⟨rfl, rfl⟩
              go_wp2_with fail
              go_ret3
              exact ⟨.inl ⟨HN.out, _, by decide, rfl⟩, HB5.out⟩
            · have HRA : Hid (R = alike X Y) := Lib.hid (by rw [HRR.out, if_pos ⟨rfl, hxy⟩])
              rw [show (xs == ys) = false by simpa using hxy] at HE
              clear hxy HRR
              go_wp2_with fail
              refine HE.out.mono ?_
              rintro e w6 ⟨rfl, rfl⟩
              go_wp2_with fail
              go_loopw [74] (fun kv wr => ∃ k : Nat, kv = .int .i64 k ∧ k ≤ lm ∧ Hid (R = alike (X.drop k) (Y.drop k)) ∧ Hid (Below w.heap.size w wr) ∧ Hid (∃ B, Txs wr B g1 cap1 vs X) ∧ Hid (∃ B, Txs wr B g2 cap2 us Y)) (fun kv _ => lm - (intOf kv).toNat)
              case atStart => exact ⟨0, rfl, by omega, HRA, HB5, Lib.hid ⟨_, HTX5.out⟩, Lib.hid ⟨_, HTY5.out⟩⟩
              case round =>
                obtain ⟨k, rfl, hk, HK, HB, HTX, HTY⟩ := hrel
                clear HTX5 HTY5 HB5 HRA HM HN1 HE HEQ HB2 HB3 HB4 HBR
                by_cases hke : k = lm
                · subst hke
                  have HN : Hid (R = none) := Lib.hid (by
                    rw [HK.out, List.drop_of_length_le (by rw [HXl.out]; exact Nat.le_refl _)]
                    cases Y.drop k <;> rfl)
                  clear HK
                  go_wp2_with fail
                  go_ret3
                  exact ⟨.inl ⟨HN.out, _, by decide, rfl⟩, HB.out⟩
                · have hk2 : (k : Int) < lm := by omega
                  have hk3 : k < lm := by omega
                  obtain ⟨B1, hT1⟩ := HTX.out
                  obtain ⟨B2, hT2⟩ := HTY.out
                  obtain ⟨u, hu⟩ : ∃ u, vs[k]? = some u := ⟨_, List.getElem?_eq_getElem (by rw [hT1.len, HXl.out]; exact hk3)⟩
                  obtain ⟨u2, hu2⟩ : ∃ u, us[k]? = some u := ⟨_, List.getElem?_eq_getElem (by rw [hT2.len, HYl.out]; exact hk3)⟩
                  obtain ⟨t, ht⟩ : ∃ t, X[k]? = some t := ⟨_, List.getElem?_eq_getElem (by rw [HXl.out]; exact hk3)⟩
                  obtain ⟨t2, ht2⟩ : ∃ t, Y[k]? = some t := ⟨_, List.getElem?_eq_getElem (by rw [HYl.out]; exact hk3)⟩
                  have kx := own_cell hT1.own hu
                  have ky := own_cell hT2.own hu2
                  have zx : g1 < wr.heap.size := World.block_lt_of_cell? _ _ kx
                  have zy : g2 < wr.heap.size := World.block_lt_of_cell? _ _ ky
                  have hat := hT1.at' k u t hu ht
                  have hat2 := hT2.at' k u2 t2 hu2 ht2
                  have hiss : t.isSome = t2.isSome := by
                    have h := congrArg (fun l : List Bool => l[k]?) HSM.out
                    simp only [List.getElem?_map, ht, ht2, Option.map_some] at h
                    exact Option.some.inj h
                  clear hu hu2 hk hke hT1 hT2 q0' q1'
                  cases t with
                  | none =>
                    have e0 : u = .slice none 0 0 := hat
                    subst e0
                    have HNX : Hid (R = alike (X.drop (k + 1)) (Y.drop (k + 1))) := Lib.hid (by rw [HK.out, alike_none ht (by rw [HYl.out]; exact hk3)])
                    clear hat hat2 hiss ht ht2 HK
                    go_wp2_with fail
                    refine wp_region_D (S := (fun W : World => Below wr.heap.size wr W)) (fun _ => true) (by kernel_rfl) (Below.refl _ _).drew (fun hHeld => ?_)
                    simp only [List.size_toArray, List.length_cons, List.length_nil, Nat.reduceAdd, Array.replicate_succ, Array.replicate_zero, List.push_toArray, List.append_toArray, List.nil_append, List.cons_append]
                    refine WD_free (i := 0) (oi := _) (v := ?_) rfl (by kernel_rfl) (fun _ _ _ h => h) (Or.inl ⟨by rfl, ?_⟩) ?_
                    rotate_left
                    · (intro W hS; (try dsimp only at hS); clear hS; go_simp; with_reducible rfl)
                    try simp only [Act.put, List.getElem_toArray, List.getElem_cons_succ, List.getElem_cons_zero, List.setIfInBounds_toArray, List.set_cons_zero, List.set_cons_succ]
                    refine WD_free (i := 1) (oi := _) (v := ?_) rfl (by kernel_rfl) (fun _ _ _ h => h) (Or.inl ⟨by rfl, ?_⟩) ?_
                    rotate_left
                    · (intro W hS; (try dsimp only at hS); clear hS; go_simp; with_reducible rfl)
                    try simp only [Act.put, List.getElem_toArray, List.getElem_cons_succ, List.getElem_cons_zero, List.setIfInBounds_toArray, List.set_cons_zero, List.set_cons_succ]
                    refine WD_free (i := 2) (oi := _) (v := ?_) rfl (by kernel_rfl) (fun _ _ _ h => h) (Or.inl ⟨by rfl, ?_⟩) ?_
                    rotate_left
                    · (intro W hS; (try dsimp only at hS); clear hS; go_simp; with_reducible rfl)
                    try simp only [Act.put, List.getElem_toArray, List.getElem_cons_succ, List.getElem_cons_zero, List.setIfInBounds_toArray, List.set_cons_zero, List.set_cons_succ]
                    refine WD_take (i := 3) (oi := _) (v := ?_) rfl (by kernel_rfl) (fun _ _ _ h => h) (Or.inl ⟨by rfl, ?_⟩) (by assumption) ?_
                    rotate_left
                    · (intro W hS; (try dsimp only at hS); have q0 := (hS.cell (p := ⟨g1, k, none⟩) zx).trans kx; clear hS; go_simp; with_reducible rfl)
                    try simp only [Act.put, List.getElem_toArray, List.getElem_cons_succ, List.getElem_cons_zero, List.setIfInBounds_toArray, List.set_cons_zero, List.set_cons_succ]
                    refine WD_free (i := 4) (oi := _) (v := ?_) rfl (by kernel_rfl) (fun _ _ _ h => h) (Or.inl ⟨by rfl, ?_⟩) ?_
                    rotate_left
                    · (intro W hS; (try dsimp only at hS); clear hS; go_simp; with_reducible rfl)
                    try simp only [Act.put, List.getElem_toArray, List.getElem_cons_succ, List.getElem_cons_zero, List.setIfInBounds_toArray, List.set_cons_zero, List.set_cons_succ]
                    refine WD_free (i := 5) (oi := _) (v := ?_) rfl (by kernel_rfl) (fun _ _ _ h => h) (Or.inl ⟨by rfl, ?_⟩) ?_
                    rotate_left
                    · (intro W hS; (try dsimp only at hS); clear hS; go_simp; with_reducible rfl)
                    try simp only [Act.put, List.getElem_toArray, List.getElem_cons_succ, List.getElem_cons_zero, List.setIfInBounds_toArray, List.set_cons_zero, List.set_cons_succ]
                    refine WD_free (i := 6) (oi := _) (v := undef) rfl (by kernel_rfl) (fun _ _ _ h => h) (Or.inr ⟨by kernel_rfl, rfl⟩) ?_
                    try simp only [Act.put, List.getElem_toArray, List.getElem_cons_succ, List.getElem_cons_zero, List.setIfInBounds_toArray, List.set_cons_zero, List.set_cons_succ]
                    refine WD_free (i := 7) (oi := _) (v := undef) rfl (by kernel_rfl) (fun _ _ _ h => h) (Or.inr ⟨by kernel_rfl, rfl⟩) ?_
                    try simp only [Act.put, List.getElem_toArray, List.getElem_cons_succ, List.getElem_cons_zero, List.setIfInBounds_toArray, List.set_cons_zero, List.set_cons_succ]
                    refine WD_free (i := 8) (oi := _) (v := undef) rfl (by kernel_rfl) (fun _ _ _ h => h) (Or.inr ⟨by kernel_rfl, rfl⟩) ?_
                    try simp only [Act.put, List.getElem_toArray, List.getElem_cons_succ, List.getElem_cons_zero, List.setIfInBounds_toArray, List.set_cons_zero, List.set_cons_succ]
                    refine WD_free (i := 9) (oi := _) (v := undef) rfl (by kernel_rfl) (fun _ _ _ h => h) (Or.inr ⟨by kernel_rfl, rfl⟩) ?_
                    try simp only [Act.put, List.getElem_toArray, List.getElem_cons_succ, List.getElem_cons_zero, List.setIfInBounds_toArray, List.set_cons_zero, List.set_cons_succ]
                    refine WD_free (i := 10) (oi := _) (v := undef) rfl (by kernel_rfl) (fun _ _ _ h => h) (Or.inr ⟨by kernel_rfl, rfl⟩) ?_
                    try simp only [Act.put, List.getElem_toArray, List.getElem_cons_succ, List.getElem_cons_zero, List.setIfInBounds_toArray, List.set_cons_zero, List.set_cons_succ]
                    refine WD_free (i := 11) (oi := _) (v := undef) rfl (by kernel_rfl) (fun _ _ _ h => h) (Or.inr ⟨by kernel_rfl, rfl⟩) ?_
                    try simp only [Act.put, List.getElem_toArray, List.getElem_cons_succ, List.getElem_cons_zero, List.setIfInBounds_toArray, List.set_cons_zero, List.set_cons_succ]
                    refine WD_free (i := 12) (oi := _) (v := undef) rfl (by kernel_rfl) (fun _ _ _ h => h) (Or.inr ⟨by kernel_rfl, rfl⟩) ?_
                    try simp only [Act.put, List.getElem_toArray, List.getElem_cons_succ, List.getElem_cons_zero, List.setIfInBounds_toArray, List.set_cons_zero, List.set_cons_succ]
                    refine WD_free (i := 13) (oi := _) (v := undef) rfl (by kernel_rfl) (fun _ _ _ h => h) (Or.inr ⟨by kernel_rfl, rfl⟩) ?_
                    try simp only [Act.put, List.getElem_toArray, List.getElem_cons_succ, List.getElem_cons_zero, List.setIfInBounds_toArray, List.set_cons_zero, List.set_cons_succ]
                    refine WD_free (i := 14) (oi := _) (v := undef) rfl (by kernel_rfl) (fun _ _ _ h => h) (Or.inr ⟨by kernel_rfl, rfl⟩) ?_
                    try simp only [Act.put, List.getElem_toArray, List.getElem_cons_succ, List.getElem_cons_zero, List.setIfInBounds_toArray, List.set_cons_zero, List.set_cons_succ]
                    refine WD_free (i := 15) (oi := _) (v := undef) rfl (by kernel_rfl) (fun _ _ _ h => h) (Or.inr ⟨by kernel_rfl, rfl⟩) ?_
                    try simp only [Act.put, List.getElem_toArray, List.getElem_cons_succ, List.getElem_cons_zero, List.setIfInBounds_toArray, List.set_cons_zero, List.set_cons_succ]
                    refine WD_free (i := 16) (oi := _) (v := undef) rfl (by kernel_rfl) (fun _ _ _ h => h) (Or.inr ⟨by kernel_rfl, rfl⟩) ?_
                    try simp only [Act.put, List.getElem_toArray, List.getElem_cons_succ, List.getElem_cons_zero, List.setIfInBounds_toArray, List.set_cons_zero, List.set_cons_succ]
                    refine WD_free (i := 17) (oi := _) (v := ?_) rfl (by kernel_rfl) (fun _ _ _ h => h) (Or.inl ⟨by rfl, ?_⟩) ?_
                    rotate_left
                    · (intro W hS; (try dsimp only at hS); clear hS; go_simp; with_reducible rfl)
                    try simp only [Act.put, List.getElem_toArray, List.getElem_cons_succ, List.getElem_cons_zero, List.setIfInBounds_toArray, List.set_cons_zero, List.set_cons_succ]
                    refine WD_done (by kernel_rfl) ?_ _

                    have HBH := Lib.hid hHeld
                    clear hHeld zx zy kx ky
                    go_wp2_with fail
                    go_round
                    case rel => exact ⟨k + 1, by go_num, by omega, HNX, Lib.hid (below_two HB.out HBH.out), Lib.hid ⟨_, HTX.out.choose_spec.below HBH.out⟩, Lib.hid ⟨_, HTY.out.choose_spec.below HBH.out⟩⟩
                    case measure => simp [intOf]; omega
                  | some x =>
                    cases t2 with
                    | none => cases hiss
                    | some y =>
                      obtain ⟨hox, x1, x2, x3⟩ := hat
                      obtain ⟨hoy, y1, y2, y3⟩ := hat2
                      obtain ⟨gx, cx, rfl, hgx⟩ := own_shape hox (by omega)
                      obtain ⟨gy, cy, rfl, hgy⟩ := own_shape hoy (by omega)
                      have HRX := Lib.hid (row_ownB hox)
                      have HRY := Lib.hid (row_ownB hoy)
                      have HO1 := Lib.hid fun W (hb : Below wr.heap.size wr W) => hash_Of (some ⟨gx, 0, none⟩) cx x W ((row_ownB hox).below hb (Nat.le_refl _)) (by omega) x3
                      have HO2 := Lib.hid fun W (hb : Below wr.heap.size wr W) => hash_Of (some ⟨gy, 0, none⟩) cy y W ((row_ownB hoy).below hb (Nat.le_refl _)) (by omega) y3
                      have HAL : Hid (R = if sumN x = sumN y then some (x, y) else alike (X.drop (k + 1)) (Y.drop (k + 1))) := Lib.hid (by rw [HK.out, alike_some ht ht2])
                      obtain ⟨lx, hlx⟩ : ∃ q, x.length = q := ⟨_, rfl⟩
                      obtain ⟨ly, hly⟩ : ∃ q, y.length = q := ⟨_, rfl⟩
                      have HLX := Lib.hid hlx
                      have HLY := Lib.hid hly
                      rw [hlx] at HO1 kx x1 x2
                      rw [hly] at HO2 ky y1 y2
                      obtain ⟨sx, hsx⟩ : ∃ q, sumN x = q := ⟨_, rfl⟩
                      obtain ⟨sy, hsy⟩ : ∃ q, sumN y = q := ⟨_, rfl⟩
                      rw [hsx] at HO1 HAL
                      rw [hsy] at HO2 HAL
                      clear hiss ht ht2 HK hox hoy x3 y3 hgx hgy hlx hly hsx hsy
                      go_wp2_with fail
                      refine wp_region_D (S := (fun W : World => Below wr.heap.size wr W)) (fun _ => true) (by kernel_rfl) (Below.refl _ _).drew (fun hHeld => ?_)
                      simp only [List.size_toArray, List.length_cons, List.length_nil, Nat.reduceAdd, Array.replicate_succ, Array.replicate_zero, List.push_toArray, List.append_toArray, List.nil_append, List.cons_append]
                      refine WD_free (i := 0) (oi := _) (v := ?_) rfl (by kernel_rfl) (fun _ _ _ h => h) (Or.inl ⟨by rfl, ?_⟩) ?_
                      rotate_left
                      · (intro W hS; (try dsimp only at hS); clear hS; go_simp; with_reducible rfl)
                      try simp only [Act.put, List.getElem_toArray, List.getElem_cons_succ, List.getElem_cons_zero, List.setIfInBounds_toArray, List.set_cons_zero, List.set_cons_succ]
                      refine WD_free (i := 1) (oi := _) (v := ?_) rfl (by kernel_rfl) (fun _ _ _ h => h) (Or.inl ⟨by rfl, ?_⟩) ?_
                      rotate_left
                      · (intro W hS; (try dsimp only at hS); clear hS; go_simp; with_reducible rfl)
                      try simp only [Act.put, List.getElem_toArray, List.getElem_cons_succ, List.getElem_cons_zero, List.setIfInBounds_toArray, List.set_cons_zero, List.set_cons_succ]
                      refine WD_free (i := 2) (oi := _) (v := ?_) rfl (by kernel_rfl) (fun _ _ _ h => h) (Or.inl ⟨by rfl, ?_⟩) ?_
                      rotate_left
                      · (intro W hS; (try dsimp only at hS); clear hS; go_simp; with_reducible rfl)
                      try simp only [Act.put, List.getElem_toArray, List.getElem_cons_succ, List.getElem_cons_zero, List.setIfInBounds_toArray, List.set_cons_zero, List.set_cons_succ]
                      refine WD_take (i := 3) (oi := _) (v := ?_) rfl (by kernel_rfl) (fun _ _ _ h => h) (Or.inl ⟨by rfl, ?_⟩) (by assumption) ?_
                      rotate_left
                      · (intro W hS; (try dsimp only at hS); have q0 := (hS.cell (p := ⟨g1, k, none⟩) zx).trans kx; clear hS; go_simp; with_reducible rfl)
                      try simp only [Act.put, List.getElem_toArray, List.getElem_cons_succ, List.getElem_cons_zero, List.setIfInBounds_toArray, List.set_cons_zero, List.set_cons_succ]
                      refine WD_free (i := 4) (oi := _) (v := ?_) rfl (by kernel_rfl) (fun _ _ _ h => h) (Or.inl ⟨by rfl, ?_⟩) ?_
                      rotate_left
                      · (intro W hS; (try dsimp only at hS); clear hS; go_simp; with_reducible rfl)
                      try simp only [Act.put, List.getElem_toArray, List.getElem_cons_succ, List.getElem_cons_zero, List.setIfInBounds_toArray, List.set_cons_zero, List.set_cons_succ]
                      refine WD_free (i := 5) (oi := _) (v := ?_) rfl (by kernel_rfl) (fun _ _ _ h => h) (Or.inl ⟨by rfl, ?_⟩) ?_
                      rotate_left
                      · (intro W hS; (try dsimp only at hS); clear hS; go_simp; with_reducible rfl)
                      try simp only [Act.put, List.getElem_toArray, List.getElem_cons_succ, List.getElem_cons_zero, List.setIfInBounds_toArray, List.set_cons_zero, List.set_cons_succ]
                      refine WD_free (i := 6) (oi := _) (v := ?_) rfl (by kernel_rfl) (fun _ _ _ h => h) (Or.inl ⟨by rfl, ?_⟩) ?_
                      rotate_left
                      · (intro W hS; (try dsimp only at hS); clear hS; go_simp; with_reducible rfl)
                      try simp only [Act.put, List.getElem_toArray, List.getElem_cons_succ, List.getElem_cons_zero, List.setIfInBounds_toArray, List.set_cons_zero, List.set_cons_succ]
                      refine WD_free (i := 7) (oi := _) (v := ?_) rfl (by kernel_rfl) (fun _ _ _ h => h) (Or.inl ⟨by rfl, ?_⟩) ?_
                      rotate_left
                      · (intro W hS; (try dsimp only at hS); clear hS; go_simp; with_reducible rfl)
                      try simp only [Act.put, List.getElem_toArray, List.getElem_cons_succ, List.getElem_cons_zero, List.setIfInBounds_toArray, List.set_cons_zero, List.set_cons_succ]
                      refine WD_free (i := 8) (oi := _) (v := ?_) rfl (by kernel_rfl) (fun _ _ _ h => h) (Or.inl ⟨by rfl, ?_⟩) ?_
                      rotate_left
                      · (intro W hS; (try dsimp only at hS); clear hS; go_simp; with_reducible rfl)
                      try simp only [Act.put, List.getElem_toArray, List.getElem_cons_succ, List.getElem_cons_zero, List.setIfInBounds_toArray, List.set_cons_zero, List.set_cons_succ]
                      refine WD_take (i := 9) (oi := _) (v := ?_) rfl (by kernel_rfl) (fun _ _ _ h => h) (Or.inl ⟨by rfl, ?_⟩) (by assumption) ?_
                      rotate_left
                      · (intro W hS; (try dsimp only at hS); have q0 := (hS.cell (p := ⟨g1, k, none⟩) zx).trans kx; clear hS; go_simp; with_reducible rfl)
                      try simp only [Act.put, List.getElem_toArray, List.getElem_cons_succ, List.getElem_cons_zero, List.setIfInBounds_toArray, List.set_cons_zero, List.set_cons_succ]
                      refine WD_free (i := 11) (oi := _) (v := ?_) rfl (by kernel_rfl) (fun _ _ _ h => h) (Or.inl ⟨by rfl, ?_⟩) ?_
                      rotate_left
                      · (intro W hS; (try dsimp only at hS); clear hS; go_simp; with_reducible rfl)
                      try simp only [Act.put, List.getElem_toArray, List.getElem_cons_succ, List.getElem_cons_zero, List.setIfInBounds_toArray, List.set_cons_zero, List.set_cons_succ]
                      refine WD_free (i := 12) (oi := _) (v := ?_) rfl (by kernel_rfl) (fun _ _ _ h => h) (Or.inl ⟨by rfl, ?_⟩) ?_
                      rotate_left
                      · (intro W hS; (try dsimp only at hS); clear hS; go_simp; with_reducible rfl)
                      try simp only [Act.put, List.getElem_toArray, List.getElem_cons_succ, List.getElem_cons_zero, List.setIfInBounds_toArray, List.set_cons_zero, List.set_cons_succ]
                      refine WD_free (i := 13) (oi := _) (v := ?_) rfl (by kernel_rfl) (fun _ _ _ h => h) (Or.inl ⟨by rfl, ?_⟩) ?_
                      rotate_left
                      · (intro W hS; (try dsimp only at hS); clear hS; go_simp; with_reducible rfl)
                      try simp only [Act.put, List.getElem_toArray, List.getElem_cons_succ, List.getElem_cons_zero, List.setIfInBounds_toArray, List.set_cons_zero, List.set_cons_succ]
                      refine WD_take (i := 14) (oi := _) (v := ?_) rfl (by kernel_rfl) (fun _ _ _ h => h) (Or.inl ⟨by rfl, ?_⟩) (by assumption) ?_
                      rotate_left
                      · (intro W hS; (try dsimp only at hS); have q0 := (hS.cell (p := ⟨g2, k, none⟩) zy).trans ky; clear hS; go_simp; with_reducible rfl)
                      try simp only [Act.put, List.getElem_toArray, List.getElem_cons_succ, List.getElem_cons_zero, List.setIfInBounds_toArray, List.set_cons_zero, List.set_cons_succ]
                      refine WD_step (i := 10) (o := _) rfl (by kernel_rfl) (fun K hK => ?_)
                      go_simp
                      refine (HO1.out _ hHeld).mono ?_
                      rintro e w10 ⟨rfl, hb10⟩
                      go_wp2_with fail
                      replace hHeld := hHeld.trans (hb10.mono hHeld.size)
                      refine hK.out _ _ (fun _ _ => hHeld) ?_
                      clear hK K
                      try simp only [Act.put, List.getElem_toArray, List.getElem_cons_succ, List.getElem_cons_zero, List.setIfInBounds_toArray, List.set_cons_zero, List.set_cons_succ]
                      clear hb10
                      refine WD_step (i := 15) (o := _) rfl (by kernel_rfl) (fun K hK => ?_)
                      go_simp
                      refine (HO2.out _ hHeld).mono ?_
                      rintro e w15 ⟨rfl, hb15⟩
                      go_wp2_with fail
                      replace hHeld := hHeld.trans (hb15.mono hHeld.size)
                      refine hK.out _ _ (fun _ _ => hHeld) ?_
                      clear hK K
                      try simp only [Act.put, List.getElem_toArray, List.getElem_cons_succ, List.getElem_cons_zero, List.setIfInBounds_toArray, List.set_cons_zero, List.set_cons_succ]
                      clear hb15
                      refine WD_free (i := 16) (oi := _) (v := ?_) rfl (by kernel_rfl) (fun _ _ _ h => h) (Or.inl ⟨by rfl, ?_⟩) ?_
                      rotate_left
                      · (intro W hS; (try dsimp only at hS); clear hS; go_simp; with_reducible rfl)
                      try simp only [Act.put, List.getElem_toArray, List.getElem_cons_succ, List.getElem_cons_zero, List.setIfInBounds_toArray, List.set_cons_zero, List.set_cons_succ]
                      refine WD_free (i := 17) (oi := _) (v := ?_) rfl (by kernel_rfl) (fun _ _ _ h => h) (Or.inl ⟨by rfl, ?_⟩) ?_
                      rotate_left
                      · (intro W hS; (try dsimp only at hS); clear hS; go_simp; with_reducible rfl)
                      try simp only [Act.put, List.getElem_toArray, List.getElem_cons_succ, List.getElem_cons_zero, List.setIfInBounds_toArray, List.set_cons_zero, List.set_cons_succ]
                      refine WD_done (by kernel_rfl) ?_ _

                      have HBH := Lib.hid hHeld
                      have kx' := (hHeld.cell (p := ⟨g1, k, none⟩) zx).trans kx
                      have ky' := (hHeld.cell (p := ⟨g2, k, none⟩) zy).trans ky
                      clear hHeld zx zy kx ky
                      by_cases hss : sx = sy
                      · subst hss
                        have HRS : Hid (R = some (x, y)) := Lib.hid (by rw [HAL.out, if_pos rfl])
                        clear HAL
                        have s1 : ((sx : Int) == (sx : Int)) = true := by simp
                        go_wp2_with fail
                        go_region
                        go_wp2_with fail
                        go_ret3
                        refine ⟨.inr ⟨x, y, some ⟨gx, 0, none⟩, some ⟨gy, 0, none⟩, cx, cy, HRS.out, ?_, HRX.out.below HBH.out.drew (Nat.le_refl _), HRY.out.below HBH.out.drew (Nat.le_refl _)⟩, below_two HB.out HBH.out.drew⟩
                        rw [HLX.out, HLY.out]
                        rfl
                      · have HNX : Hid (R = alike (X.drop (k + 1)) (Y.drop (k + 1))) := Lib.hid (by rw [HAL.out, if_neg hss])
                        have s1 : ((sx : Int) == (sy : Int)) = false := by simp; omega
                        clear HAL
                        go_wp2_with fail
                        go_round
                        case rel => exact ⟨k + 1, by go_num, by omega, HNX, Lib.hid (below_two HB.out HBH.out), Lib.hid ⟨_, HTX.out.choose_spec.below HBH.out⟩, Lib.hid ⟨_, HTY.out.choose_spec.below HBH.out⟩⟩
                        case measure => simp [intOf]; omega
          · have HN : Hid (R = none) := Lib.hid (by rw [HRR.out, if_neg (fun h => hs h.1)])
            have f1 : ((s1 : Int) != (s2 : Int)) = true := by simp; omega
            have f2 : ((s1 : Int) == (s2 : Int)) = false := by simp; omega
            have f3 : ¬ (s1 : Int) = (s2 : Int) := by omega
            clear HRR
            go_wp2_with fail
            go_ret3
            exact ⟨.inl ⟨HN.out, _, by decide, rfl⟩, HB5.out⟩
end Go.Proofs.Ytpikjahgnnejmaa
