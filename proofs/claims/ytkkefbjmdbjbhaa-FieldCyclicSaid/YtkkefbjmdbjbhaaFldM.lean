/- The contracts of field.Add, Mul, Inv (printed by gen/wfldm.py). -/
import Derived.Test.YtkkefbjmdbjbhaaFldE
namespace Go.Proofs.Ytkkefbjmdbjbhaa
open Go.RowKit
set_option linter.unusedVariables false
set_option linter.unusedSimpArgs false
theorem rowL_one (w : World) (x : Int) : RowL (w.alloc (.cells #[.int .i64 x] 2)) (some ⟨w.heap.size, 0, none⟩) 1 [x] :=
  ⟨(fun e => by cases e), (fun ad e j u hu => by
    cases e
    match j, hu with
    | 0, hu => cases hu; simp [go_sem, Addr.add]
    | j + 1, hu => simp [inV] at hu), Nat.le_refl _⟩
theorem rowL_two (w : World) (x y : Int) : RowL (w.alloc (.cells #[.int .i64 x, .int .i64 y] 2)) (some ⟨w.heap.size, 0, none⟩) 2 [x, y] :=
  ⟨(fun e => by cases e), (fun ad e j u hu => by
    cases e
    match j, hu with
    | 0, hu => cases hu; simp [go_sem, Addr.add]
    | 1, hu => cases hu; simp [go_sem, Addr.add]
    | j + 2, hu => simp [inV] at hu), Nat.le_refl _⟩
theorem opv_ok {P m : Nat} {f : List Int} (h : Fld P f m) {af : Option Addr} {Lf cf : Nat} {fv : Value} (ho : OpV P f af Lf cf 0 fv) : fv = .agg #[.int .i64 P, .int .i64 ((P ^ m : Nat) : Int), .slice af Lf cf] := by
  obtain ⟨x, s, a, L, c, rfl, hh⟩ := ho
  obtain ⟨rfl, rfl, rfl, rfl, rfl⟩ := hh rfl
  rw [h.mon.len, Nat.add_sub_cancel, Int.toNat_natCast]
theorem elE_fld {p : Int} {f xs : List Int} (h : elE p f xs = 0) : fldE p f = 0 := (elE_zero h).1
theorem plus_w {p : Int} {a b : Option Addr} {c d : Nat} {xs ys : List Int} {w : World} {La Lb N : Nat} (hp : 1 ≤ p) (hp2 : p ≤ 251) (e1 : xs.length = La) (e2 : ys.length = Lb) (e3 : (plusL p xs ys 1 0).length = N) (l1 : La ≤ 400) (l2 : Lb ≤ 400) (x1 : Pl p xs) (x2 : Pl p ys) (h1 : RowL w a c xs) (h2 : RowL w b d ys) :
    Calls Try.prog 19 #[.int .i64 p, .slice a La c, .slice b Lb d, .int .i64 1, .int .i64 0] w fun e w' => (∃ a' c', e = .returned (.slice a' N c') ∧ RowL w' a' c' (plusL p xs ys 1 0)) ∧ Below w.heap.size w w' := by
  subst e1; subst e2; subst e3
  exact poly_Plus p 1 0 a b c d xs ys w hp hp2 (by omega) (by omega) (by omega) h1 h2 (by omega) (by omega) x1.rng x2.rng
set_option maxRecDepth 100000 in
set_option maxHeartbeats 6400000 in
theorem field_Add_bad (p : Int) (f : List Int) (af : Option Addr) (Lf cf : Nat) (a b : Int) (w : World) (hf : RowL w af cf f) (hLf : f.length = Lf) (hl : Lf ≤ maxLen) (h : elE p f [a, b] ≠ 0) :
    Calls Try.prog 12 #[.int .i64 p, .slice af Lf cf, .int .i64 a, .int .i64 b] w fun e w' => e = .returned (.tuple #[.int .i64 0, .int .i64 (elE p f [a, b])]) ∧ Below w.heap.size w w' := by
  have HC := Lib.hid fun ad cd w hf hx => field_elements p f [a, b] af Lf cf ad 2 cd w hf hLf hl hx rfl (by omega)
  have HF := Lib.hid hf
  unfold maxLen at hl
  obtain ⟨T, hT⟩ : ∃ T, elE p f [a, b] = T := ⟨_, rfl⟩
  rw [hT] at h HC ⊢
  have e1 : (T == 0) = false := by simpa using h
  have e2 : (T != 0) = true := by simpa using h
  clear hT hf hLf h
  go_enter Try.func12, Try.ntmps12
  go_wp2_with fail
  have hbw : Below w.heap.size w (w.alloc (.cells #[.int .i64 a, .int .i64 b] 2)) := (Below.refl _ _).alloc (Nat.le_refl _) _
  refine (HC.out _ 2 _ (HF.out.below hbw (Nat.le_refl _)) ?r1).mono ?_
  case r1 => exact rowL_two _ _ _
  rintro e w2 ⟨⟨fv, rfl, ho⟩, hb2⟩
  obtain ⟨x0, s0, a0, L0, c0, rfl, hfv⟩ := ho
  have hb3 := below_two hbw hb2
  have z3 := hb3.size
  clear hfv hb2
  have hb4 := hb3.alloc z3 (.cells #[.int .i64 x0, .int .i64 s0, .slice a0 L0 c0] 38)
  go_wp2
  go_ret2
  exact ⟨rfl, hb4⟩
set_option maxRecDepth 100000 in
set_option maxHeartbeats 6400000 in
theorem field_Mul_bad (p : Int) (f : List Int) (af : Option Addr) (Lf cf : Nat) (a b : Int) (w : World) (hf : RowL w af cf f) (hLf : f.length = Lf) (hl : Lf ≤ maxLen) (h : elE p f [a, b] ≠ 0) :
    Calls Try.prog 9 #[.int .i64 p, .slice af Lf cf, .int .i64 a, .int .i64 b] w fun e w' => e = .returned (.tuple #[.int .i64 0, .int .i64 (elE p f [a, b])]) ∧ Below w.heap.size w w' := by
  have HC := Lib.hid fun ad cd w hf hx => field_elements p f [a, b] af Lf cf ad 2 cd w hf hLf hl hx rfl (by omega)
  have HF := Lib.hid hf
  unfold maxLen at hl
  obtain ⟨T, hT⟩ : ∃ T, elE p f [a, b] = T := ⟨_, rfl⟩
  rw [hT] at h HC ⊢
  have e1 : (T == 0) = false := by simpa using h
  have e2 : (T != 0) = true := by simpa using h
  clear hT hf hLf h
  go_enter Try.func9, Try.ntmps9
  go_wp2_with fail
  have hbw : Below w.heap.size w (w.alloc (.cells #[.int .i64 a, .int .i64 b] 2)) := (Below.refl _ _).alloc (Nat.le_refl _) _
  refine (HC.out _ 2 _ (HF.out.below hbw (Nat.le_refl _)) ?r1).mono ?_
  case r1 => exact rowL_two _ _ _
  rintro e w2 ⟨⟨fv, rfl, ho⟩, hb2⟩
  obtain ⟨x0, s0, a0, L0, c0, rfl, hfv⟩ := ho
  have hb3 := below_two hbw hb2
  have z3 := hb3.size
  clear hfv hb2
  have hb4 := hb3.alloc z3 (.cells #[.int .i64 x0, .int .i64 s0, .slice a0 L0 c0] 38)
  go_wp2
  go_ret2
  exact ⟨rfl, hb4⟩
set_option maxRecDepth 100000 in
set_option maxHeartbeats 6400000 in
theorem field_Inv_bad (p : Int) (f : List Int) (af : Option Addr) (Lf cf : Nat) (a : Int) (w : World) (hf : RowL w af cf f) (hLf : f.length = Lf) (hl : Lf ≤ maxLen) (h : elE p f [a] ≠ 0) :
    Calls Try.prog 13 #[.int .i64 p, .slice af Lf cf, .int .i64 a] w fun e w' => e = .returned (.tuple #[.int .i64 0, .int .i64 (elE p f [a])]) ∧ Below w.heap.size w w' := by
  have HC := Lib.hid fun ad cd w hf hx => field_elements p f [a] af Lf cf ad 1 cd w hf hLf hl hx rfl (by omega)
  have HF := Lib.hid hf
  unfold maxLen at hl
  obtain ⟨T, hT⟩ : ∃ T, elE p f [a] = T := ⟨_, rfl⟩
  rw [hT] at h HC ⊢
  have e1 : (T == 0) = false := by simpa using h
  have e2 : (T != 0) = true := by simpa using h
  clear hT hf hLf h
  go_enter Try.func13, Try.ntmps13
  go_wp2_with fail
  have hbw : Below w.heap.size w (w.alloc (.cells #[.int .i64 a] 2)) := (Below.refl _ _).alloc (Nat.le_refl _) _
  refine (HC.out _ 1 _ (HF.out.below hbw (Nat.le_refl _)) ?r1).mono ?_
  case r1 => exact rowL_one _ _
  rintro e w2 ⟨⟨fv, rfl, ho⟩, hb2⟩
  obtain ⟨x0, s0, a0, L0, c0, rfl, hfv⟩ := ho
  have hb3 := below_two hbw hb2
  have z3 := hb3.size
  clear hfv hb2
  have hb4 := hb3.alloc z3 (.cells #[.int .i64 x0, .int .i64 s0, .slice a0 L0 c0] 38)
  go_wp2
  go_ret2
  exact ⟨rfl, hb4⟩
set_option maxRecDepth 100000 in
set_option maxHeartbeats 6400000 in
theorem field_Add (P m : Nat) (f : List Int) (af : Option Addr) (Lf cf : Nat) (A B : Nat) (w : World) (hg : Fld P f m) (hf : RowL w af cf f) (hLf : f.length = Lf) (hl : Lf ≤ maxLen) (h : elE P f [A, B] = 0) :
    Calls Try.prog 12 #[.int .i64 P, .slice af Lf cf, .int .i64 A, .int .i64 B] w fun e w' => e = .returned (.tuple #[.int .i64 (addF P A B), .int .i64 0]) ∧ Below w.heap.size w w' := by
  have HC := Lib.hid fun ad cd w hf hx => field_elements P f [A, B] af Lf cf ad 2 cd w hf hLf hl hx rfl (by omega)
  have HF := Lib.hid hf
  unfold maxLen at hl
  have p2 := hg.p2
  have p251 := hg.p251
  have m12 := hg.m12
  have hsm := hg.small
  have ha : A < P ^ m := by have := ((elE_zero h).2 A (by simp)).2.1; rwa [hg.mon.len, Nat.add_sub_cancel, Int.toNat_natCast, Int.toNat_natCast] at this
  have hb : B < P ^ m := by have := ((elE_zero h).2 B (by simp)).2.1; rwa [hg.mon.len, Nat.add_sub_cancel, Int.toNat_natCast, Int.toNat_natCast] at this
  have hla := dig_len p2 m A ha
  have hlb := dig_len p2 m B hb
  have hs := hg.add_lt ha hb
  have r1 : Pl (P : Int) (plusL P (digL P A) (digL P B) 1 0) := Pl.plus (by omega) (dig_pl p2 A)
  have r2 : (plusL P (digL P A) (digL P B) 1 0).length ≤ m := by
    have e := dig_num p2 r1
    rw [← e]
    exact dig_len p2 m _ hs
  obtain ⟨LA, hLA⟩ : ∃ L, (digL P A).length = L := ⟨_, rfl⟩
  obtain ⟨LB, hLB⟩ : ∃ L, (digL P B).length = L := ⟨_, rfl⟩
  obtain ⟨LR, hLR⟩ : ∃ L, (plusL P (digL P A) (digL P B) 1 0).length = L := ⟨_, rfl⟩
  rw [hLA] at hla
  rw [hLB] at hlb
  rw [hLR] at r2
  have HPA := Lib.hid fun w => field_poly P A ((P ^ m : Nat) : Int) af Lf cf LA w p2 p251 (by omega) hLA
  have HPB := Lib.hid fun w => field_poly P B ((P ^ m : Nat) : Int) af Lf cf LB w p2 p251 (by omega) hLB
  have HPL := Lib.hid fun a' c' b' d' w h1 h2 => plus_w (p := P) (a := a') (c := c') (b := b') (d := d') (w := w) (by omega) (by omega) hLA hLB hLR (by omega) (by omega) (dig_pl p2 A) (dig_pl p2 B) h1 h2
  have HNU := Lib.hid fun a' c' w hh => field_number P m ((P ^ m : Nat) : Int) af Lf cf LR a' c' _ w p2 p251 hsm hLR r2 m12 r1.rng hh
  have HV : Hid (numL P (plusL P (digL P A) (digL P B) 1 0) = addF P A B) := Lib.hid rfl
  clear hLA hLB hLR r1 hs
  rw [h, elE_fld h] at HC
  have HOK := Lib.hid fun fv ho => opv_ok (P := P) (m := m) (f := f) hg (af := af) (Lf := Lf) (cf := cf) (fv := fv) ho
  clear h hf hLf hg
  go_enter Try.func12, Try.ntmps12
  go_wp2_with fail
  have hbw : Below w.heap.size w (w.alloc (.cells #[.int .i64 A, .int .i64 B] 2)) := (Below.refl _ _).alloc (Nat.le_refl _) _
  refine (HC.out _ 2 _ (HF.out.below hbw (Nat.le_refl _)) ?r1).mono ?_
  case r1 => exact rowL_two _ _ _
  rintro e w2 ⟨⟨fv, rfl, ho⟩, hb2⟩
  obtain rfl := HOK.out fv ho
  have hb3 := below_two hbw hb2
  clear ho hb2 hbw
  obtain ⟨S, hS⟩ : ∃ S, P ^ m = S := ⟨_, rfl⟩
  simp only [hS]
  obtain ⟨w3, hw3⟩ : ∃ W, W = w2.alloc (.cells #[.int .i64 P, .int .i64 S, .slice af Lf cf] 38) := ⟨_, rfl⟩
  have hA : Below w2.heap.size w2 w3 := by rw [hw3]; exact (Below.refl _ _).alloc (Nat.le_refl _) _
  have F3 : FB w3 w2.heap.size P S af Lf cf := by rw [hw3]; exact FB.new _ _ _ _ _ _
  have hbw := below_two hb3 hA
  have HRF := Lib.hid (HF.out.below hbw (Nat.le_refl _))
  obtain ⟨⟨k0, k1, k2⟩, f0, f1, f2⟩ := id F3
  rw [hS] at HPA HPB HNU
  clear hS hA hb3 F3
  go_wp2_with fail
  rw [← hw3]
  clear hw3
  refine wp_region_D (S := (fun W : World => Below w3.heap.size w3 W)) (fun _ => true) (by kernel_rfl) (Below.refl _ _).drew (fun hHeld => ?_)
  simp only [List.size_toArray, List.length_cons, List.length_nil, Nat.reduceAdd, Array.replicate_succ, Array.replicate_zero, List.push_toArray, List.append_toArray, List.nil_append, List.cons_append]
  refine WD_take (i := 0) (oi := _) (v := ?_) rfl (by kernel_rfl) (fun _ _ _ h => h) (Or.inl ⟨by rfl, ?_⟩) (by assumption) ?_
  rotate_left
  · (intro W hS; (try dsimp only at hS); have q0 := (hS.cell (p := ⟨w2.heap.size, 0, none⟩) (World.block_lt_of_cell? _ _ k0)).trans k0; have q1 := (hS.cell (p := ⟨w2.heap.size, 1, none⟩) (World.block_lt_of_cell? _ _ k1)).trans k1; have q2 := (hS.cell (p := ⟨w2.heap.size, 2, none⟩) (World.block_lt_of_cell? _ _ k2)).trans k2; clear hS; go_simp; with_reducible rfl)
  try simp only [Act.put, List.getElem_toArray, List.getElem_cons_succ, List.getElem_cons_zero, List.setIfInBounds_toArray, List.set_cons_zero, List.set_cons_succ]
  refine WD_free (i := 1) (oi := _) (v := ?_) rfl (by kernel_rfl) (fun _ _ _ h => h) (Or.inl ⟨by rfl, ?_⟩) ?_
  rotate_left
  · (intro W hS; (try dsimp only at hS); clear hS; go_simp; with_reducible rfl)
  try simp only [Act.put, List.getElem_toArray, List.getElem_cons_succ, List.getElem_cons_zero, List.setIfInBounds_toArray, List.set_cons_zero, List.set_cons_succ]
  refine WD_take (i := 2) (oi := _) (v := ?_) rfl (by kernel_rfl) (fun _ _ _ h => h) (Or.inl ⟨by rfl, ?_⟩) (by assumption) ?_
  rotate_left
  · (intro W hS; (try dsimp only at hS); have q0 := (hS.cell (p := ⟨w2.heap.size, 0, none⟩) (World.block_lt_of_cell? _ _ k0)).trans k0; have q1 := (hS.cell (p := ⟨w2.heap.size, 1, none⟩) (World.block_lt_of_cell? _ _ k1)).trans k1; have q2 := (hS.cell (p := ⟨w2.heap.size, 2, none⟩) (World.block_lt_of_cell? _ _ k2)).trans k2; clear hS; go_simp; with_reducible rfl)
  try simp only [Act.put, List.getElem_toArray, List.getElem_cons_succ, List.getElem_cons_zero, List.setIfInBounds_toArray, List.set_cons_zero, List.set_cons_succ]
  refine WD_free (i := 3) (oi := _) (v := ?_) rfl (by kernel_rfl) (fun _ _ _ h => h) (Or.inl ⟨by rfl, ?_⟩) ?_
  rotate_left
  · (intro W hS; (try dsimp only at hS); clear hS; go_simp; with_reducible rfl)
  try simp only [Act.put, List.getElem_toArray, List.getElem_cons_succ, List.getElem_cons_zero, List.setIfInBounds_toArray, List.set_cons_zero, List.set_cons_succ]
  refine WD_take (i := 5) (oi := _) (v := ?_) rfl (by kernel_rfl) (fun _ _ _ h => h) (Or.inl ⟨by rfl, ?_⟩) (by assumption) ?_
  rotate_left
  · (intro W hS; (try dsimp only at hS); have q0 := (hS.cell (p := ⟨w2.heap.size, 0, none⟩) (World.block_lt_of_cell? _ _ k0)).trans k0; have q1 := (hS.cell (p := ⟨w2.heap.size, 1, none⟩) (World.block_lt_of_cell? _ _ k1)).trans k1; have q2 := (hS.cell (p := ⟨w2.heap.size, 2, none⟩) (World.block_lt_of_cell? _ _ k2)).trans k2; clear hS; go_simp; with_reducible rfl)
  try simp only [Act.put, List.getElem_toArray, List.getElem_cons_succ, List.getElem_cons_zero, List.setIfInBounds_toArray, List.set_cons_zero, List.set_cons_succ]
  refine WD_free (i := 6) (oi := _) (v := ?_) rfl (by kernel_rfl) (fun _ _ _ h => h) (Or.inl ⟨by rfl, ?_⟩) ?_
  rotate_left
  · (intro W hS; (try dsimp only at hS); clear hS; go_simp; with_reducible rfl)
  try simp only [Act.put, List.getElem_toArray, List.getElem_cons_succ, List.getElem_cons_zero, List.setIfInBounds_toArray, List.set_cons_zero, List.set_cons_succ]
  refine WD_step (i := 4) (o := _) rfl (by kernel_rfl) (fun K hK => ?_)
  go_simp
  refine (HPA.out _).mono ?_
  rintro e w5 ⟨⟨a5, c5, rfl, hr5⟩, hb5⟩
  have HR5 := Lib.hid hr5
  clear hr5
  go_wp2_with fail
  replace hHeld := below_two hHeld hb5
  refine hK.out _ _ (fun _ _ => hHeld) ?_
  clear hK K
  try simp only [Act.put, List.getElem_toArray, List.getElem_cons_succ, List.getElem_cons_zero, List.setIfInBounds_toArray, List.set_cons_zero, List.set_cons_succ]
  refine WD_step (i := 7) (o := _) rfl (by kernel_rfl) (fun K hK => ?_)
  go_simp
  refine (HPB.out _).mono ?_
  rintro e w6 ⟨⟨a6, c6, rfl, hr6⟩, hb6⟩
  have HR6 := Lib.hid hr6
  have HR56 := Lib.hid (HR5.out.below hb6 (Nat.le_refl _))
  clear hr6
  go_wp2_with fail
  replace hHeld := below_two hHeld hb6
  refine hK.out _ _ (fun _ _ => hHeld) ?_
  clear hK K
  try simp only [Act.put, List.getElem_toArray, List.getElem_cons_succ, List.getElem_cons_zero, List.setIfInBounds_toArray, List.set_cons_zero, List.set_cons_succ]
  refine WD_step (i := 8) (o := _) rfl (by kernel_rfl) (fun K hK => ?_)
  go_simp
  refine (HPL.out _ _ _ _ _ HR56.out HR6.out).mono ?_
  rintro e w7 ⟨⟨a7, c7, rfl, hr7⟩, hb7⟩
  have HR7 := Lib.hid hr7
  clear hr7
  go_wp2_with fail
  replace hHeld := below_two hHeld hb7
  refine hK.out _ _ (fun _ _ => hHeld) ?_
  clear hK K
  try simp only [Act.put, List.getElem_toArray, List.getElem_cons_succ, List.getElem_cons_zero, List.setIfInBounds_toArray, List.set_cons_zero, List.set_cons_succ]
  refine WD_step (i := 9) (o := _) rfl (by kernel_rfl) (fun K hK => ?_)
  go_simp
  refine (HNU.out _ _ _ HR7.out).mono ?_
  rintro e w8 ⟨rfl, hb8⟩
  go_wp2_with fail
  replace hHeld := below_two hHeld hb8
  refine hK.out _ _ (fun _ _ => hHeld) ?_
  clear hK K
  try simp only [Act.put, List.getElem_toArray, List.getElem_cons_succ, List.getElem_cons_zero, List.setIfInBounds_toArray, List.set_cons_zero, List.set_cons_succ]
  refine WD_free (i := 10) (oi := _) (v := ?_) rfl (by kernel_rfl) (fun _ _ _ h => h) (Or.inl ⟨by rfl, ?_⟩) ?_
  rotate_left
  · (intro W hS; (try dsimp only at hS); clear hS; go_simp; with_reducible rfl)
  try simp only [Act.put, List.getElem_toArray, List.getElem_cons_succ, List.getElem_cons_zero, List.setIfInBounds_toArray, List.set_cons_zero, List.set_cons_succ]
  refine WD_free (i := 11) (oi := _) (v := ?_) rfl (by kernel_rfl) (fun _ _ _ h => h) (Or.inl ⟨by rfl, ?_⟩) ?_
  rotate_left
  · (intro W hS; (try dsimp only at hS); clear hS; go_simp; with_reducible rfl)
  try simp only [Act.put, List.getElem_toArray, List.getElem_cons_succ, List.getElem_cons_zero, List.setIfInBounds_toArray, List.set_cons_zero, List.set_cons_succ]
  refine WD_done (by kernel_rfl) ?_ _
  have hbz := below_two hbw hHeld
  clear hHeld k0 k1 k2
  go_wp2
  go_ret2
  exact ⟨by rw [← HV.out]; rfl, hbz⟩
set_option maxRecDepth 100000 in
set_option maxHeartbeats 6400000 in
theorem field_Mul (P m : Nat) (f : List Int) (af : Option Addr) (Lf cf : Nat) (A B : Nat) (w : World) (hg : Fld P f m) (hf : RowL w af cf f) (hLf : f.length = Lf) (hl : Lf ≤ maxLen) (h : elE P f [A, B] = 0) :
    Calls Try.prog 9 #[.int .i64 P, .slice af Lf cf, .int .i64 A, .int .i64 B] w fun e w' => e = .returned (.tuple #[.int .i64 (mulF P f A B), .int .i64 0]) ∧ Below w.heap.size w w' := by
  have HC := Lib.hid fun ad cd w hf hx => field_elements P f [A, B] af Lf cf ad 2 cd w hf hLf hl hx rfl (by omega)
  have HF := Lib.hid hf
  unfold maxLen at hl
  have ha : A < P ^ m := by have := ((elE_zero h).2 A (by simp)).2.1; rwa [hg.mon.len, Nat.add_sub_cancel, Int.toNat_natCast, Int.toNat_natCast] at this
  have hb : B < P ^ m := by have := ((elE_zero h).2 B (by simp)).2.1; rwa [hg.mon.len, Nat.add_sub_cancel, Int.toNat_natCast, Int.toNat_natCast] at this
  have HM := Lib.hid fun w hf => field_mul P m f ((P ^ m : Nat) : Int) af Lf cf A B w hg hf hLf ha hb
  rw [h, elE_fld h] at HC
  have HOK := Lib.hid fun fv ho => opv_ok (P := P) (m := m) (f := f) hg (af := af) (Lf := Lf) (cf := cf) (fv := fv) ho
  clear h hf hLf hg
  go_enter Try.func9, Try.ntmps9
  go_wp2_with fail
  have hbw : Below w.heap.size w (w.alloc (.cells #[.int .i64 A, .int .i64 B] 2)) := (Below.refl _ _).alloc (Nat.le_refl _) _
  refine (HC.out _ 2 _ (HF.out.below hbw (Nat.le_refl _)) ?r1).mono ?_
  case r1 => exact rowL_two _ _ _
  rintro e w2 ⟨⟨fv, rfl, ho⟩, hb2⟩
  obtain rfl := HOK.out fv ho
  have hb3 := below_two hbw hb2
  clear ho hb2 hbw
  obtain ⟨S, hS⟩ : ∃ S, P ^ m = S := ⟨_, rfl⟩
  simp only [hS]
  obtain ⟨w3, hw3⟩ : ∃ W, W = w2.alloc (.cells #[.int .i64 P, .int .i64 S, .slice af Lf cf] 38) := ⟨_, rfl⟩
  have hA : Below w2.heap.size w2 w3 := by rw [hw3]; exact (Below.refl _ _).alloc (Nat.le_refl _) _
  have F3 : FB w3 w2.heap.size P S af Lf cf := by rw [hw3]; exact FB.new _ _ _ _ _ _
  have hbw := below_two hb3 hA
  have HRF := Lib.hid (HF.out.below hbw (Nat.le_refl _))
  obtain ⟨⟨k0, k1, k2⟩, f0, f1, f2⟩ := id F3
  rw [hS] at HM
  clear hS hA hb3 F3
  go_wp2_with fail
  rw [← hw3]
  clear hw3
  refine (HM.out _ HRF.out).mono ?_
  rintro e w5 ⟨rfl, hb5⟩
  have hbz := below_two hbw hb5
  clear hb5 k0 k1 k2
  go_wp2
  go_ret2
  exact ⟨rfl, hbz⟩
set_option maxRecDepth 100000 in
set_option maxHeartbeats 6400000 in
theorem field_Inv (P m : Nat) (f : List Int) (af : Option Addr) (Lf cf : Nat) (A : Nat) (w : World) (hg : Fld P f m) (hf : RowL w af cf f) (hLf : f.length = Lf) (hl : Lf ≤ maxLen) (h : elE P f [A] = 0) (h0 : A ≠ 0) :
    Calls Try.prog 13 #[.int .i64 P, .slice af Lf cf, .int .i64 A] w fun e w' => e = .returned (.tuple #[.int .i64 (powF P f A (P ^ m - 2)), .int .i64 0]) ∧ Below w.heap.size w w' := by
  have HC := Lib.hid fun ad cd w hf hx => field_elements P f [A] af Lf cf ad 1 cd w hf hLf hl hx rfl (by omega)
  have HF := Lib.hid hf
  unfold maxLen at hl
  have hsm := hg.small
  have h1 := hg.one_lt
  have ha : A < P ^ m := by have := ((elE_zero h).2 A (by simp)).2.1; rwa [hg.mon.len, Nat.add_sub_cancel, Int.toNat_natCast, Int.toNat_natCast] at this
  have HM := Lib.hid fun w hf => field_pow P m f ((P ^ m : Nat) : Int) af Lf cf A (P ^ m - 2) w hg hf hLf ha (by omega)
  obtain ⟨R, hR⟩ : ∃ R, powF P f A (P ^ m - 2) = R := ⟨_, rfl⟩
  rw [hR] at HM ⊢
  clear hR
  have e0 : ((A : Int) == 0) = false := by simp; omega
  have HV0 : Hid (A ≠ 0) := Lib.hid h0
  clear h0
  rw [h, elE_fld h] at HC
  have HOK := Lib.hid fun fv ho => opv_ok (P := P) (m := m) (f := f) hg (af := af) (Lf := Lf) (cf := cf) (fv := fv) ho
  clear h hf hLf hg
  go_enter Try.func13, Try.ntmps13
  go_wp2_with fail
  have hbw : Below w.heap.size w (w.alloc (.cells #[.int .i64 A] 2)) := (Below.refl _ _).alloc (Nat.le_refl _) _
  refine (HC.out _ 1 _ (HF.out.below hbw (Nat.le_refl _)) ?r1).mono ?_
  case r1 => exact rowL_one _ _
  rintro e w2 ⟨⟨fv, rfl, ho⟩, hb2⟩
  obtain rfl := HOK.out fv ho
  have hb3 := below_two hbw hb2
  clear ho hb2 hbw
  obtain ⟨S, hS⟩ : ∃ S, P ^ m = S := ⟨_, rfl⟩
  simp only [hS]
  obtain ⟨w3, hw3⟩ : ∃ W, W = w2.alloc (.cells #[.int .i64 P, .int .i64 S, .slice af Lf cf] 38) := ⟨_, rfl⟩
  have hA : Below w2.heap.size w2 w3 := by rw [hw3]; exact (Below.refl _ _).alloc (Nat.le_refl _) _
  have F3 : FB w3 w2.heap.size P S af Lf cf := by rw [hw3]; exact FB.new _ _ _ _ _ _
  have hbw := below_two hb3 hA
  have HRF := Lib.hid (HF.out.below hbw (Nat.le_refl _))
  obtain ⟨⟨k0, k1, k2⟩, f0, f1, f2⟩ := id F3
  rw [hS] at HM hsm h1
  rw [show ((S - 2 : Nat) : Int) = (S : Int) - 2 by omega] at HM
  clear hS hA hb3 F3
  have e00 : ¬ A = 0 := HV0.out
  go_wp2_with fail
  rw [← hw3]
  clear hw3
  refine (HM.out _ HRF.out).mono ?_
  rintro e w5 ⟨rfl, hb5⟩
  have hbz := below_two hbw hb5
  clear hb5 k0 k1 k2
  go_wp2
  go_ret2
  exact ⟨rfl, hbz⟩
end Go.Proofs.Ytkkefbjmdbjbhaa
