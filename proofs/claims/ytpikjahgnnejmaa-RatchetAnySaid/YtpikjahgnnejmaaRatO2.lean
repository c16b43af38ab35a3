/- The contract of (*taker).open. -/
import Derived.Test.YtpikjahgnnejmaaRatT
import Derived.Deep.RegionWith
namespace Go.Proofs.Ytpikjahgnnejmaa
open Go.RowKit Go.Maps
set_option linter.unusedVariables false
set_option linter.unusedSimpArgs false
set_option maxRecDepth 20000 in
set_option maxHeartbeats 3200000 in
theorem open_new (g bm k0 A most n : Nat) (K : List Nat) (w : World) (hk0 : k0 < 65536) (h : Tk w g bm k0 A most K) (hA : A ≤ 1000) (hn : n ≤ 1000) (hm : most ≤ 1000) (hK : K.length ≤ 1000) (h1 : ¬ n < A) :
    Calls Try.prog 47 #[.pointer (some ⟨g, 0, none⟩), .int .i64 n] w fun e w' =>
      e = .returned (.tuple #[.int .i64 ((openN k0 most A K n).1.1 : Nat), .int .i64 ((openN k0 most A K n).1.2 : Nat)]) ∧ Tk w' g bm k0 (openN k0 most A K n).2.1 most (openN k0 most A K n).2.2 ∧ But w w' g bm := by
  obtain ⟨c0, c1, c2, c3, f0, f1⟩ := h.cell
  obtain ⟨D, nn, hown, hnn, hrel⟩ := h.mp
  have um : Try.prog.underlying 88 = some (.map 3 3) := by kernel_rfl
  have ui : Try.prog.underlying 3 = some (.int .i64) := by kernel_rfl
  have HTk := Lib.hid h
  obtain ⟨L, hL⟩ : ∃ L, K.length = L := ⟨_, rfl⟩
  have hlen := hown.drew.len um 3
  rw [hrel.size, hL] at hlen
  rw [hL] at hK
  have S1 : w.drew.cell? ⟨g, 3, none⟩ = some (.map (some bm)) ∧ w.drew.cell? ⟨g, 1, none⟩ = some (.int .i64 (A : Nat)) ∧ w.drew.cell? ⟨g, 2, none⟩ = some (.int .i64 (most : Nat)) ∧ (Builtin.len_ #[88] 3 #[.map (some bm)]).run Try.prog w.drew = .ok (.int .i64 (L : Nat)) w.drew := ⟨c3, c1, c2, hlen⟩
  have HL := Lib.hid hL
  have i1 : ¬ (n : Int) < (A : Int) := by omega
  have wr1 : IntKind.i64.wrap ((L : Int) + (n : Int)) = (L : Int) + (n : Int) := IntWalk.i64_in _ (by omega)
  have wr2 : IntKind.i64.wrap ((L : Int) + (n : Int) - (A : Int)) = (L : Int) + (n : Int) - (A : Int) := IntWalk.i64_in _ (by omega)
  obtain ⟨R, hR⟩ : ∃ R, R = openN k0 most A K n := ⟨_, rfl⟩
  rw [← hR]
  have HR := Lib.hid hR
  clear hL hlen hown hrel h hR
  go_enter Try.func47, Try.ntmps47
  go_wp2_with fail
  refine wp_region_D (S := (fun W : World => W.cell? ⟨g, 3, none⟩ = some (.map (some bm)) ∧ W.cell? ⟨g, 1, none⟩ = some (.int .i64 (A : Nat)) ∧ W.cell? ⟨g, 2, none⟩ = some (.int .i64 (most : Nat)) ∧ (Builtin.len_ #[88] 3 #[.map (some bm)]).run Try.prog W = .ok (.int .i64 (L : Nat)) W)) (fun _ => true) (by kernel_rfl) S1 (fun hHeld => ?_)
  simp only [List.size_toArray, List.length_cons, List.length_nil, Nat.reduceAdd, Array.replicate_succ, Array.replicate_zero, List.push_toArray, List.append_toArray, List.nil_append, List.cons_append]
  refine WD_free (i := 0) (oi := _) (v := ?_) rfl (by kernel_rfl) (fun _ _ _ h => h) (Or.inl ⟨by rfl, ?_⟩) ?_
  rotate_left
  · (intro W hS; (try dsimp only at hS); clear hS; go_simp; with_reducible rfl)
  try simp only [Act.put, List.getElem_toArray, List.getElem_cons_succ, List.getElem_cons_zero, List.setIfInBounds_toArray, List.set_cons_zero, List.set_cons_succ]
  refine WD_free (i := 1) (oi := _) (v := ?_) rfl (by kernel_rfl) (fun _ _ _ h => h) (Or.inl ⟨by rfl, ?_⟩) ?_
  rotate_left
  · (intro W hS; (try dsimp only at hS); clear hS; go_simp; with_reducible rfl)
  try simp only [Act.put, List.getElem_toArray, List.getElem_cons_succ, List.getElem_cons_zero, List.setIfInBounds_toArray, List.set_cons_zero, List.set_cons_succ]
  refine WD_free (i := 2) (oi := _) (v := ?_) rfl (by kernel_rfl) (fun _ _ _ h => h) (Or.inl ⟨by rfl, ?_⟩) ?_
  rotate_left
  · (intro W hS; (try dsimp only at hS); clear hS; go_simp; with_reducible rfl)
  try simp only [Act.put, List.getElem_toArray, List.getElem_cons_succ, List.getElem_cons_zero, List.setIfInBounds_toArray, List.set_cons_zero, List.set_cons_succ]
  refine WD_take (i := 3) (oi := _) (v := ?_) rfl (by kernel_rfl) (fun _ _ _ h => h) (Or.inl ⟨by rfl, ?_⟩) (by assumption) ?_
  rotate_left
  · (intro W hS; (try dsimp only at hS); have k3 := hS.1; clear hS; go_simp; with_reducible rfl)
  try simp only [Act.put, List.getElem_toArray, List.getElem_cons_succ, List.getElem_cons_zero, List.setIfInBounds_toArray, List.set_cons_zero, List.set_cons_succ]
  refine WD_take (i := 4) (oi := _) (v := ?_) rfl (by kernel_rfl) (fun _ _ _ h => h) (Or.inl ⟨by rfl, ?_⟩) (by assumption) ?_
  rotate_left
  · (intro W hS; (try dsimp only at hS); have k4 := hS.2.2.2; clear hS; go_simp; with_reducible rfl)
  try simp only [Act.put, List.getElem_toArray, List.getElem_cons_succ, List.getElem_cons_zero, List.setIfInBounds_toArray, List.set_cons_zero, List.set_cons_succ]
  refine WD_free (i := 5) (oi := _) (v := ?_) rfl (by kernel_rfl) (fun _ _ _ h => h) (Or.inl ⟨by rfl, ?_⟩) ?_
  rotate_left
  · (intro W hS; (try dsimp only at hS); clear hS; go_simp; with_reducible rfl)
  try simp only [Act.put, List.getElem_toArray, List.getElem_cons_succ, List.getElem_cons_zero, List.setIfInBounds_toArray, List.set_cons_zero, List.set_cons_succ]
  refine WD_free (i := 6) (oi := _) (v := ?_) rfl (by kernel_rfl) (fun _ _ _ h => h) (Or.inl ⟨by rfl, ?_⟩) ?_
  rotate_left
  · (intro W hS; (try dsimp only at hS); clear hS; go_simp; with_reducible rfl)
  try simp only [Act.put, List.getElem_toArray, List.getElem_cons_succ, List.getElem_cons_zero, List.setIfInBounds_toArray, List.set_cons_zero, List.set_cons_succ]
  refine WD_free (i := 7) (oi := _) (v := ?_) rfl (by kernel_rfl) (fun _ _ _ h => h) (Or.inl ⟨by rfl, ?_⟩) ?_
  rotate_left
  · (intro W hS; (try dsimp only at hS); clear hS; go_simp; with_reducible rfl)
  try simp only [Act.put, List.getElem_toArray, List.getElem_cons_succ, List.getElem_cons_zero, List.setIfInBounds_toArray, List.set_cons_zero, List.set_cons_succ]
  refine WD_free (i := 8) (oi := _) (v := ?_) rfl (by kernel_rfl) (fun _ _ _ h => h) (Or.inl ⟨by rfl, ?_⟩) ?_
  rotate_left
  · (intro W hS; (try dsimp only at hS); clear hS; go_simp; with_reducible rfl)
  try simp only [Act.put, List.getElem_toArray, List.getElem_cons_succ, List.getElem_cons_zero, List.setIfInBounds_toArray, List.set_cons_zero, List.set_cons_succ]
  refine WD_free (i := 9) (oi := _) (v := ?_) rfl (by kernel_rfl) (fun _ _ _ h => h) (Or.inl ⟨by rfl, ?_⟩) ?_
  rotate_left
  · (intro W hS; (try dsimp only at hS); clear hS; go_simp; with_reducible rfl)
  try simp only [Act.put, List.getElem_toArray, List.getElem_cons_succ, List.getElem_cons_zero, List.setIfInBounds_toArray, List.set_cons_zero, List.set_cons_succ]
  refine WD_take (i := 10) (oi := _) (v := ?_) rfl (by kernel_rfl) (fun _ _ _ h => h) (Or.inl ⟨by rfl, ?_⟩) (by assumption) ?_
  rotate_left
  · (intro W hS; (try dsimp only at hS); have k1 := hS.2.1; clear hS; go_simp; with_reducible rfl)
  try simp only [Act.put, List.getElem_toArray, List.getElem_cons_succ, List.getElem_cons_zero, List.setIfInBounds_toArray, List.set_cons_zero, List.set_cons_succ]
  refine WD_free (i := 11) (oi := _) (v := ?_) rfl (by kernel_rfl) (fun _ _ _ h => h) (Or.inl ⟨by rfl, ?_⟩) ?_
  rotate_left
  · (intro W hS; (try dsimp only at hS); clear hS; go_simp; with_reducible rfl)
  try simp only [Act.put, List.getElem_toArray, List.getElem_cons_succ, List.getElem_cons_zero, List.setIfInBounds_toArray, List.set_cons_zero, List.set_cons_succ]
  refine WD_free (i := 12) (oi := _) (v := ?_) rfl (by kernel_rfl) (fun _ _ _ h => h) (Or.inl ⟨by rfl, ?_⟩) ?_
  rotate_left
  · (intro W hS; (try dsimp only at hS); clear hS; go_simp; with_reducible rfl)
  try simp only [Act.put, List.getElem_toArray, List.getElem_cons_succ, List.getElem_cons_zero, List.setIfInBounds_toArray, List.set_cons_zero, List.set_cons_succ]
  refine WD_free (i := 13) (oi := _) (v := ?_) rfl (by kernel_rfl) (fun _ _ _ h => h) (Or.inl ⟨by rfl, ?_⟩) ?_
  rotate_left
  · (intro W hS; (try dsimp only at hS); clear hS; go_simp; with_reducible rfl)
  try simp only [Act.put, List.getElem_toArray, List.getElem_cons_succ, List.getElem_cons_zero, List.setIfInBounds_toArray, List.set_cons_zero, List.set_cons_succ]
  refine WD_free (i := 14) (oi := _) (v := ?_) rfl (by kernel_rfl) (fun _ _ _ h => h) (Or.inl ⟨by rfl, ?_⟩) ?_
  rotate_left
  · (intro W hS; (try dsimp only at hS); clear hS; go_simp; with_reducible rfl)
  try simp only [Act.put, List.getElem_toArray, List.getElem_cons_succ, List.getElem_cons_zero, List.setIfInBounds_toArray, List.set_cons_zero, List.set_cons_succ]
  refine WD_take (i := 15) (oi := _) (v := ?_) rfl (by kernel_rfl) (fun _ _ _ h => h) (Or.inl ⟨by rfl, ?_⟩) (by assumption) ?_
  rotate_left
  · (intro W hS; (try dsimp only at hS); have k2 := hS.2.2.1; clear hS; go_simp; with_reducible rfl)
  try simp only [Act.put, List.getElem_toArray, List.getElem_cons_succ, List.getElem_cons_zero, List.setIfInBounds_toArray, List.set_cons_zero, List.set_cons_succ]
  refine WD_free (i := 16) (oi := _) (v := ?_) rfl (by kernel_rfl) (fun _ _ _ h => h) (Or.inl ⟨by rfl, ?_⟩) ?_
  rotate_left
  · (intro W hS; (try dsimp only at hS); clear hS; go_simp; with_reducible rfl)
  try simp only [Act.put, List.getElem_toArray, List.getElem_cons_succ, List.getElem_cons_zero, List.setIfInBounds_toArray, List.set_cons_zero, List.set_cons_succ]
  refine WD_done (by kernel_rfl) ?_ _
  have HTd : Hid (Tk w.drew g bm k0 A most K) := Lib.hid (HTk.out.same rfl rfl)
  by_cases h2 : most < L + n - A
  · have e : openN k0 most A K n = ((0, 1), A, K) := by unfold openN; rw [if_neg h1, HL.out, if_pos h2]
    have HRe := Lib.hid (HR.out.trans e)
    have h2i : (most : Int) < (L : Int) + (n : Int) - (A : Int) := by omega
    clear e S1 hHeld
    go_wp2
    go_ret2
    rw [HRe.out]
    exact ⟨rfl, HTd.out, But.of_below ((Below.refl _ w).drew) g bm⟩
  · have e : openN k0 most A K n = ((msgN k0 n, 0), n + 1, K ++ (List.range (n - A)).map (A + ·)) := by unfold openN; rw [if_neg h1, HL.out, if_neg h2]
    have HRe := Lib.hid (HR.out.trans e)
    have h2i : ¬ (most : Int) < (L : Int) + (n : Int) - (A : Int) := by omega
    clear e S1 hHeld c0 c1 c2 c3 f0 f1
    go_wp2
    rw [decide_eq_false (show ¬ (most : Int) < (L : Int) + (n : Int) - (A : Int) by omega)]
    go_loopw [51] (fun _ wr => ∃ B : Nat, A ≤ B ∧ B ≤ n ∧ Tk wr g bm k0 B most (K ++ (List.range (B - A)).map (A + ·)) ∧ But w wr g bm) (fun _ wr => n - (intOf ((wr.cell? ⟨g, 1, none⟩).getD undef)).toNat)
    case atStart => exact ⟨A, Nat.le_refl _, by omega, by rw [Nat.sub_self]; simpa using HTd.out, But.of_below ((Below.refl _ w).drew) g bm⟩
    case round =>
      obtain ⟨B, hB1, hB2, hT, hbut⟩ := hrel
      obtain ⟨c0, c1, c2, c3, f0, f1⟩ := hT.cell
      have hgz := hT.glt.1
      have HTk := Lib.hid hT
      have hkl := keyN_lt hk0 B
      by_cases hlt : B < n
      · have S1 : wr.drew.cell? ⟨g, 3, none⟩ = some (.map (some bm)) ∧ wr.drew.cell? ⟨g, 1, none⟩ = some (.int .i64 (B : Nat)) := ⟨c3, c1⟩
        have c0d : wr.drew.cell? ⟨g, 0, none⟩ = some (.int .i64 (keyN k0 B : Nat)) := c0
        have f0d : wr.drew.frozen? ⟨g, 0, none⟩ = false := f0
        have HTu := Lib.hid (fun W c f => ratchet_turn g 0 (keyN k0 B) W hkl c f)
        have hkeyB : keyOf Try.prog 3 (.int .i64 (B : Int)) = some (.int .i64 (B : Int)) := keyOf_int_mk ui (WalkArith.wf_i64 (by omega))
        have hml := msgN_lt k0 B
        have hwfM : (Lit.int .i64 ((msgN k0 B : Nat) : Int)).wf = true := WalkArith.wf_i64 (by omega)
        have hBi : (B : Int) < (n : Int) := by omega
        have hbut' := hbut.trans (But.of_below ((Below.refl _ wr).drew) g bm)
        clear hT hbut
        go_wp2_with fail
        refine wp_region_D (S := (fun W : World => W.cell? ⟨g, 3, none⟩ = some (.map (some bm)) ∧ W.cell? ⟨g, 1, none⟩ = some (.int .i64 (B : Nat)))) (fun j => j != 12) (by kernel_rfl) S1 (fun hHeld => ?_)
        simp only [List.size_toArray, List.length_cons, List.length_nil, Nat.reduceAdd, Array.replicate_succ, Array.replicate_zero, List.push_toArray, List.append_toArray, List.nil_append, List.cons_append]
        refine WD_free (i := 0) (oi := _) (v := ?_) rfl (by kernel_rfl) (fun _ _ _ h => h) (Or.inl ⟨by rfl, ?_⟩) ?_
        rotate_left
        · (intro W hS; (try dsimp only at hS); clear hS; go_simp; with_reducible rfl)
        try simp only [Act.put, List.getElem_toArray, List.getElem_cons_succ, List.getElem_cons_zero, List.setIfInBounds_toArray, List.set_cons_zero, List.set_cons_succ]
        refine WD_free (i := 1) (oi := _) (v := ?_) rfl (by kernel_rfl) (fun _ _ _ h => h) (Or.inl ⟨by rfl, ?_⟩) ?_
        rotate_left
        · (intro W hS; (try dsimp only at hS); clear hS; go_simp; with_reducible rfl)
        try simp only [Act.put, List.getElem_toArray, List.getElem_cons_succ, List.getElem_cons_zero, List.setIfInBounds_toArray, List.set_cons_zero, List.set_cons_succ]
        refine WD_free (i := 2) (oi := _) (v := ?_) rfl (by kernel_rfl) (fun _ _ _ h => h) (Or.inl ⟨by rfl, ?_⟩) ?_
        rotate_left
        · (intro W hS; (try dsimp only at hS); clear hS; go_simp; with_reducible rfl)
        try simp only [Act.put, List.getElem_toArray, List.getElem_cons_succ, List.getElem_cons_zero, List.setIfInBounds_toArray, List.set_cons_zero, List.set_cons_succ]
        refine WD_take (i := 3) (oi := _) (v := ?_) rfl (by kernel_rfl) (fun _ _ _ h => h) (Or.inl ⟨by rfl, ?_⟩) (by assumption) ?_
        rotate_left
        · (intro W hS; (try dsimp only at hS); have k3 := hS.1; clear hS; go_simp; with_reducible rfl)
        try simp only [Act.put, List.getElem_toArray, List.getElem_cons_succ, List.getElem_cons_zero, List.setIfInBounds_toArray, List.set_cons_zero, List.set_cons_succ]
        refine WD_free (i := 4) (oi := _) (v := ?_) rfl (by kernel_rfl) (fun _ _ _ h => h) (Or.inl ⟨by rfl, ?_⟩) ?_
        rotate_left
        · (intro W hS; (try dsimp only at hS); clear hS; go_simp; with_reducible rfl)
        try simp only [Act.put, List.getElem_toArray, List.getElem_cons_succ, List.getElem_cons_zero, List.setIfInBounds_toArray, List.set_cons_zero, List.set_cons_succ]
        refine WD_free (i := 5) (oi := _) (v := ?_) rfl (by kernel_rfl) (fun _ _ _ h => h) (Or.inl ⟨by rfl, ?_⟩) ?_
        rotate_left
        · (intro W hS; (try dsimp only at hS); clear hS; go_simp; with_reducible rfl)
        try simp only [Act.put, List.getElem_toArray, List.getElem_cons_succ, List.getElem_cons_zero, List.setIfInBounds_toArray, List.set_cons_zero, List.set_cons_succ]
        refine WD_free (i := 6) (oi := _) (v := ?_) rfl (by kernel_rfl) (fun _ _ _ h => h) (Or.inl ⟨by rfl, ?_⟩) ?_
        rotate_left
        · (intro W hS; (try dsimp only at hS); clear hS; go_simp; with_reducible rfl)
        try simp only [Act.put, List.getElem_toArray, List.getElem_cons_succ, List.getElem_cons_zero, List.setIfInBounds_toArray, List.set_cons_zero, List.set_cons_succ]
        refine WD_take (i := 7) (oi := _) (v := ?_) rfl (by kernel_rfl) (fun _ _ _ h => h) (Or.inl ⟨by rfl, ?_⟩) (by assumption) ?_
        rotate_left
        · (intro W hS; (try dsimp only at hS); have k1 := hS.2; clear hS; go_simp; with_reducible rfl)
        try simp only [Act.put, List.getElem_toArray, List.getElem_cons_succ, List.getElem_cons_zero, List.setIfInBounds_toArray, List.set_cons_zero, List.set_cons_succ]
        refine WD_free (i := 8) (oi := _) (v := ?_) rfl (by kernel_rfl) (fun _ _ _ h => h) (Or.inl ⟨by rfl, ?_⟩) ?_
        rotate_left
        · (intro W hS; (try dsimp only at hS); clear hS; go_simp; with_reducible rfl)
        try simp only [Act.put, List.getElem_toArray, List.getElem_cons_succ, List.getElem_cons_zero, List.setIfInBounds_toArray, List.set_cons_zero, List.set_cons_succ]
        refine WD_free (i := 9) (oi := _) (v := ?_) rfl (by kernel_rfl) (fun _ _ _ h => h) (Or.inl ⟨by rfl, ?_⟩) ?_
        rotate_left
        · (intro W hS; (try dsimp only at hS); clear hS; go_simp; with_reducible rfl)
        try simp only [Act.put, List.getElem_toArray, List.getElem_cons_succ, List.getElem_cons_zero, List.setIfInBounds_toArray, List.set_cons_zero, List.set_cons_succ]
        refine WD_free (i := 10) (oi := _) (v := ?_) rfl (by kernel_rfl) (fun _ _ _ h => h) (Or.inl ⟨by rfl, ?_⟩) ?_
        rotate_left
        · (intro W hS; (try dsimp only at hS); clear hS; go_simp; with_reducible rfl)
        try simp only [Act.put, List.getElem_toArray, List.getElem_cons_succ, List.getElem_cons_zero, List.setIfInBounds_toArray, List.set_cons_zero, List.set_cons_succ]
        refine WD_step (i := 11) (o := _) rfl (by kernel_rfl) (fun K hK => ?_)
        go_simp
        go_at_call 46
        refine (HTu.out _ c0d f0d).mono ?_
        rintro e w2 ⟨rfl, W1, hb1, rfl⟩
        go_wp2_with fail
        replace hHeld := (sKeep wr.drew W1 g bm B (.int .i64 (partN (keyN k0 B) 2 : Nat)) hb1 hHeld)
        refine hK.out _ _ (fun _ _ => hHeld) ?_
        clear hK K
        try simp only [Act.put, List.getElem_toArray, List.getElem_cons_succ, List.getElem_cons_zero, List.setIfInBounds_toArray, List.set_cons_zero, List.set_cons_succ]
        have hT2 := turned HTk.out hb1
        refine WD_step (i := 12) (o := _) rfl (by kernel_rfl) (fun K' hK' => ?_)
        obtain ⟨D2, n2, hown2, hn2, hrel2⟩ := hT2.mp
        refine step_mapUpdate_own rfl _ _ _ 88 rfl 3 3 int_law um _ bm n2 D2 rfl hown2 (by unfold maxLen; omega) _ _ _ rfl rfl hkeyB _ [] (plainElem_int ui hwfM) ?_
        intro w3 hown3 hgrow3
        refine hK'.out _ _ (fun h => by cases h) ?_
        clear hK' K'
        try simp only [Act.put, List.getElem_toArray, List.getElem_cons_succ, List.getElem_cons_zero, List.setIfInBounds_toArray, List.set_cons_zero, List.set_cons_succ]
        refine WD_done (by kernel_rfl) ?_ _
        obtain ⟨y1, y2⟩ := hT2.cells hgrow3
        have hN : Tk (w3.setCell ⟨g, 1, none⟩ (.int .i64 ((B : Int) + 1))) g bm k0 (B + 1) most ((K ++ (List.range (B - A)).map (A + ·)) ++ [B]) := hT2.next hn2 hrel2 (hown2.tidy int_law) hown3 hgrow3
        rw [keep_snoc K hB1] at hN
        have hgs : w3.heap.size ≥ 0 := Nat.zero_le _
        have HN := Lib.hid hN
        have HB3 := Lib.hid (((hbut'.trans (But.of_below hb1 g bm)).trans ((But.set _ g bm 0 _).trans (But.grown hgrow3))).trans (But.set w3 g bm 1 (.int .i64 ((B : Int) + 1))))
        clear hN hT2 hown2 hown3 hrel2 hgrow3 hHeld S1 c0d f0d hb1 hbut'
        go_wp2
        go_roundw
        case rel => exact ⟨B + 1, by omega, by omega, HN.out, HB3.out⟩
        case measure =>
          have e1 := HN.out.cell.2.1
          rw [e1, c1]
          simp [intOf]; omega
      · have eB : B = n := by omega
        subst eB
        have hge : ¬ (B : Int) < (B : Int) := by omega
        have HTu := Lib.hid (fun W c f => ratchet_turn g 0 (keyN k0 B) W hkl c f)
        have c0s : (wr.setCell ⟨g, 1, none⟩ (.int .i64 ((B : Int) + 1))).cell? ⟨g, 0, none⟩ = some (.int .i64 (keyN k0 B : Nat)) := by rw [World.cell?_setCell_other _ _ _ _ (by simp)]; exact c0
        have f0s : (wr.setCell ⟨g, 1, none⟩ (.int .i64 ((B : Int) + 1))).frozen? ⟨g, 0, none⟩ = false := by rw [World.frozen?_setCell]; exact f0
        clear hT
        go_wp2_with fail
        refine (HTu.out _ c0s f0s).mono ?_
        rintro e w2 ⟨rfl, W1, hb1, rfl⟩
        have HF : Hid (Tk (W1.setCell ⟨g, 0, none⟩ (.int .i64 (partN (keyN k0 B) 2 : Nat))) g bm k0 (B + 1) most (K ++ (List.range (B - A)).map (A + ·))) := Lib.hid (HTk.out.last hb1)
        have HB3 := Lib.hid ((hbut.trans ((But.set wr g bm 1 _).trans (But.of_below hb1 g bm))).trans (But.set W1 g bm 0 (.int .i64 (partN (keyN k0 B) 2 : Nat))))
        clear hb1 c0s f0s
        go_wp2
        go_ret2
        rw [HRe.out]
        exact ⟨rfl, HF.out, HB3.out⟩
theorem taker_open (g bm k0 A most n : Nat) (K : List Nat) (w : World) (hk0 : k0 < 65536) (h : Tk w g bm k0 A most K) (hA : A ≤ 1000) (hn : n ≤ 1000) (hm : most ≤ 1000) (hK : K.length ≤ 1000) :
    Calls Try.prog 47 #[.pointer (some ⟨g, 0, none⟩), .int .i64 n] w fun e w' =>
      e = .returned (.tuple #[.int .i64 ((openN k0 most A K n).1.1 : Nat), .int .i64 ((openN k0 most A K n).1.2 : Nat)]) ∧ Tk w' g bm k0 (openN k0 most A K n).2.1 most (openN k0 most A K n).2.2 ∧ But w w' g bm := by
  by_cases h1 : n < A
  · exact open_old g bm k0 A most n K w hk0 h hA hn hm hK h1
  · exact open_new g bm k0 A most n K w hk0 h hA hn hm hK h1
end Go.Proofs.Ytpikjahgnnejmaa
